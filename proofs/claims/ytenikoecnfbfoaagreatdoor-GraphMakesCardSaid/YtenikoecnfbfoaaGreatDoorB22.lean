/- Texts of the proof, in build order: Refs, Move, Move2, NestPl. -/
import Derived.Test.YtenikoecnfbfoaaGreatDoorB20
import Derived.Deep.Upon
import Derived.ArgAppend
import Derived.Deep.DeepCutAuto
import Derived.Lib.ItoaLen
/- The objects that a value names. -/
namespace Go.Proofs.YtenikoecnfbfoaaGreatDoor
open Go.RowKit Go.Maps Wr
set_option linter.unusedVariables false

namespace VT
mutual
def refs : VT → List Int
  | node k n _ l => (if k = 5 then [n] else []) ++ refsL l
def refsL : List VT → List Int
  | [] => []
  | t :: l => refs t ++ refsL l
end
theorem refs_node (k n : Int) (s : ByteArray) (l : List VT) : (node k n s l).refs = (if k = 5 then [n] else []) ++ refsL l := by rw [refs]
theorem refsL_cons (t : VT) (l : List VT) : refsL (t :: l) = refs t ++ refsL l := by rw [refsL]
theorem refsL_nil : refsL [] = [] := by rw [refsL]
mutual
theorem refs_len : ∀ t : VT, t.refs.length ≤ t.sz
  | node k n s l => by
    have := refsL_len l
    rw [refs, sz, List.length_append]
    split <;> simp <;> omega
theorem refsL_len : ∀ l : List VT, (refsL l).length ≤ szs l
  | [] => by rw [refsL, szs]; simp
  | t :: l => by
    have := refs_len t
    have := refsL_len l
    rw [refsL, szs, List.length_append]; omega
end
theorem refsL_drop {l : List VT} {i : Nat} {t : VT} (h : l[i]? = some t) : refsL (l.drop i) = refs t ++ refsL (l.drop (i + 1)) := by rw [drop_kid h, refsL_cons]
mutual
theorem tame_sz : ∀ (t : VT) (d left : Int), ((tame t d left).1.sz : Int) = left - (tame t d left).2
  | node k n s l, d, left => by
    have := tames_sz l 12 d (left - 1)
    rw [tame]
    simp only
    rw [sz]
    omega
theorem tames_sz : ∀ (l : List VT) (m : Nat) (d left : Int), ((szs (tames l m d left).1 : Nat) : Int) = left - (tames l m d left).2
  | [], m, d, left => by
    have e : tames [] m d left = ([], left) := by rw [tames]
    rw [e]; simp [szs]
  | t :: ts, m, d, left => by
    rw [tames]
    split
    · have h1 := tame_sz t (d - 1) left
      have h2 := tames_sz ts (m - 1) d (tame t (d - 1) left).2
      simp only
      rw [szs]
      omega
    · simp [szs]
end
end VT
theorem topTame_sz (t : VT) : (topTame t).sz ≤ 1300 := by
  have h := VT.tame_sz t 210 300
  have h2 := VT.tame_left t 210 300 (by omega) (by omega)
  unfold topTame
  omega

theorem infoI : (Tryz.prog.info? 3).map (fun i => (i.zero, i.size, i.bytes)) = some (some (.int .i64 0), 1, 8) := by kernel_rfl
def ivals (l : List Int) : List Value := l.map (Value.int .i64)
theorem ivals_length (l : List Int) : (ivals l).length = l.length := by simp [ivals]
theorem ivals_append (a b : List Int) : ivals (a ++ b) = ivals a ++ ivals b := by simp [ivals]
theorem ivals_one (l : List Int) : ∀ u ∈ ivals l, u.oneCell' = true := by
  intro u hu
  obtain ⟨b, _, rfl⟩ := List.mem_map.1 hu
  rfl
/-- A row of numbers, all of it in blocks from N on. -/
def IRow (w : World) (N : Nat) (v : Value) (l : List Int) : Prop := Row w 3 v (ivals l) ∧ ∀ k, v.ownBlock = some k → N ≤ k
theorem IRow.nil (w : World) (N : Nat) : IRow w N (.slice none 0 0) [] := ⟨Row.nil _ _, fun k h => by simp [Value.ownBlock] at h⟩
theorem IRow.below {w w' : World} {N : Nat} {v : Value} {l : List Int} (h : IRow w N v l) (hb : Below w.heap.size w w') : IRow w' N v l :=
  ⟨h.1.chg (F := []) ⟨hb.os, hb.tape, hb.output, hb.size, fun i hi _ => hb.block i hi⟩ (fun _ _ => by simp), h.2⟩
theorem IRow.form {w : World} {N : Nat} {v : Value} {l : List Int} (h : IRow w N v l) : ∃ ao cap, v = .slice ao l.length cap ∧ l.length ≤ cap ∧ cap ≤ maxLen := by
  obtain ⟨ao, cap, hv, h1, h2, _⟩ := h.1.form
  rw [ivals_length] at hv h1
  exact ⟨ao, cap, hv, h1, h2⟩
theorem IRow.aside {w w' : World} {M : Nat} {v v' x : Value} {l : List Int} (h : IRow w M x l) (hs : OwnStep w v w' v') (hx : ∀ k, x.ownBlock = some k → v.ownBlock ≠ some k) : IRow w' M x l :=
  ⟨h.1.chg hs.1 (fun k hk => by simpa using hx k hk), h.2⟩
theorem IRow.one (w : World) (x : Int) : IRow (w.alloc (.cells #[.int .i64 x] 3)) w.heap.size (.slice (some ⟨w.heap.size, 0, none⟩) 1 1) [x] := by
  refine ⟨⟨rfl, .inr ⟨w.heap.size, 1, #[.int .i64 x], rfl, Nat.zero_le _, heap_alloc_new w _, Nat.le_refl _, by unfold maxLen; omega, rfl, rfl⟩⟩, fun k hk => by simp only [Value.ownBlock, Option.some.injEq] at hk; omega⟩

theorem run_appi {w : World} {ty : TypeId} {N M : Nat} {v x : Value} {l m : List Int} (hr : IRow w N v l) (hx : IRow w M x m) (hN : N ≤ w.heap.size) (h63 : l.length + m.length ≤ 1000000000) :
    ∃ v' w', (Builtin.append_ #[72, 72] ty #[v, x]).run Tryz.prog w = .ok v' w' ∧ IRow w' N v' (l ++ m) ∧ OwnStep w v w' v' := by
  obtain ⟨i0, hi, hz0, hz1, hz2⟩ := info_parts infoI
  have hll := ivals_length l
  have hml := ivals_length m
  rcases hx.1.shape with ⟨rfl, h0⟩ | ⟨gx, cx, rfl, h1, h2, h3⟩
  · have hm : m = [] := by simpa [ivals] using h0
    subst hm
    obtain ⟨ao, cap, rfl, hle, _⟩ := hr.form
    refine ⟨_, w, run_append_nothing w 72 72 ty 3 i0 Tryz.underlying72 hi ao l.length cap hle (.slice none 0 0) ?_, by rw [List.append_nil]; exact hr, OwnStep.refl _ _⟩
    exact Src.ofNil w Tryz.underlying72 0
  · rw [hml] at h1 hx ⊢
    by_cases hm : m = []
    · subst hm
      obtain ⟨ao, cap, rfl, hle, _⟩ := hr.form
      refine ⟨_, w, run_append_nothing w 72 72 ty 3 i0 Tryz.underlying72 hi ao l.length cap hle _ ?_, by rw [List.append_nil]; exact hr, OwnStep.refl _ _⟩
      exact Src.ofSlice w Tryz.underlying72 _ 0 _ [] (by simp) (fun j u hj => by simp at hj) (fun _ h => by cases h)
    · have hmp : 0 < m.length := by cases m; exact absurd rfl hm; simp
      have hown : w.ownsRow N 3 1 v l.length (ivals l) := by
        have h := hr.1
        unfold Row at h
        rw [hll] at h
        refine ⟨h.1, ?_⟩
        rcases h.2 with hn | ⟨g, cap, cur, rfl, _, rest⟩
        · exact .inl hn
        · exact .inr ⟨g, cap, cur, rfl, hr.2 g rfl, rest⟩
      obtain ⟨g, cap, w', hrun, hown', hgr, hloc, _⟩ := run_append_lies (P := Tryz.prog) w 72 ty N 3 i0 (.int .i64 0) 1 8 Tryz.underlying72 hi hz0 hz1 hz2 rfl (by decide) v l.length (ivals l) hown ⟨gx, 0, none⟩ m.length cx (ivals m) (by rw [hml, Nat.mul_one]) (fun j u hj => by
          have hj2 := (List.getElem?_eq_some_iff.1 hj).1
          rw [show (Addr.add ⟨gx, 0, none⟩ j) = ⟨gx, j, none⟩ by unfold Addr.add; split <;> simp_all]
          rw [hx.1.cellAt j hj2]; exact hj) (ivals_one m) hmp (by unfold maxLen; omega) (by omega) hN w.heap.size rfl
      refine ⟨_, w', hrun, ⟨?_, ?_⟩, (Chg.refl _ w).grown hgr (fun k hk => .inl (by simp [hk])), ?_⟩
      · unfold Row
        rw [← ivals_append] at hown'
        rw [ivals_length, List.length_append]
        refine ⟨hown'.1, ?_⟩
        rcases hown'.2 with hn | ⟨g, cap, cur, e, _, rest⟩
        · exact .inl hn
        · exact .inr ⟨g, cap, cur, e, Nat.zero_le _, rest⟩
      · intro k hk
        simp only [Value.ownBlock, Option.some.injEq] at hk
        subst hk
        rcases hloc with e | e
        · exact hr.2 _ e
        · omega
      · rcases hloc with e | e
        · exact .inl e.symm
        · exact .inr ⟨g, rfl, by omega⟩
theorem wpList_appi {w : World} {ops : Array Oper} {rest : List Oper} {o : Oper} {a : Act} {Q : Exit → Act → World → Prop} (hgd : o.guard = none) (sl x : Operand)
    (ho : o.op = .call { callee := .builtin .append, args := #[sl, x], argTypes := #[72, 72] }) {N M : Nat} {v vx : Value} {l m : List Int} (hs : a.eval sl = v) (hr : IRow w N v l) (hx : a.eval x = vx) (hrx : IRow w M vx m) (hN : N ≤ w.heap.size)
    (h63 : l.length + m.length ≤ 1000000000)
    (h : ∀ v' w', IRow w' N v' (l ++ m) → OwnStep w v w' v' → wpList Tryz.prog ops Q rest (a.put o.dst v') w') : wpList Tryz.prog ops Q (o :: rest) a w := by
  refine wpList_plain hgd fun K hK => ?_
  obtain ⟨v', w', hrun, h2, h3⟩ := run_appi (ty := o.type) hr hrx hN h63
  unfold Oper.wp execOp
  simp only [ho, resolve, invoke, builtin, Sem.run_bind, Sem.run_pure, Result.andThen_ok, List.map_toArray, List.map_cons, List.map_nil, hs, hx, hrun]
  exact hK _ _ (h v' w' h2 h3)
theorem step_appi {w : World} {ops : Array Oper} {o : Oper} {a : Act} {K : Act → World → Prop} {Q : Exit → Act → World → Prop} {E : Prop} (hgd : o.guard = none) (sl x : Operand)
    (ho : o.op = .call { callee := .builtin .append, args := #[sl, x], argTypes := #[72, 72] }) {N M : Nat} {v vx : Value} {l m : List Int} (hs : a.eval sl = v) (hr : IRow w N v l) (hx : a.eval x = vx) (hrx : IRow w M vx m) (hN : N ≤ w.heap.size)
    (h63 : l.length + m.length ≤ 1000000000)
    (h : ∀ v' w', IRow w' N v' (l ++ m) → OwnStep w v w' v' → K (a.put o.dst v') w') : if Region.wanted o (yielded ops a.tmps) = true then Oper.wp Tryz.prog o a w K Q else E := by
  have hw : Region.wanted o (yielded ops a.tmps) = true := by simp [Region.wanted, hgd]
  rw [if_pos hw]
  obtain ⟨v', w', hrun, h2, h3⟩ := run_appi (ty := o.type) hr hrx hN h63
  unfold Oper.wp execOp
  simp only [ho, resolve, invoke, builtin, Sem.run_bind, Sem.run_pure, Result.andThen_ok, List.map_toArray, List.map_cons, List.map_nil, hs, hx, hrun, Oper.upon]
  exact h v' w' h2 h3
def RefsEnd (W : World) (l : List Int) (e : Ending) (w : World) : Prop := ∃ v, e = .returned v ∧ IRow w W.heap.size v l ∧ Below W.heap.size W w
def RefsLoop (N : Nat) (W : World) (l0 : List Int) (l : List VT) (k : Nat) (s3 s17 : Value) (w : World) : Prop :=
  ∃ (i : Nat) (pre : List Int), s17 = .int .i64 i ∧ i + k = l.length ∧ IRow w N s3 pre ∧ pre ++ VT.refsL (l.drop i) = l0 ++ VT.refsL l ∧ Below N W w
set_option maxRecDepth 100000 in
set_option maxHeartbeats 1600000 in
theorem refs_walk (k : Nat) : ∀ (t : VT) (vt : Value) (w : World) (P : Nat → Prop), t.sz ≤ k → ValIs w P t vt → (∀ b, P b → b < w.heap.size) → t.sz ≤ 100000 →
    Calls Tryz.prog 28 #[vt] w (RefsEnd w t.refs) := by
  induction k with
  | zero => intro t v w P hk; cases t; simp [VT.sz] at hk
  | succ k ih =>
    intro t v w P hk ht hP hsz
    cases t with
    | node ka na sa la =>
    unfold ValIs at ht
    obtain ⟨ao, cap, rfl, a1, a2, a3, a4, a5, a6, a7⟩ := ht
    have hlen := VT.refsL_len la
    have hszl : Hid ((VT.refsL la).length ≤ 100000) := by rw [VT.sz] at hsz; show _ ≤ _; omega
    have hll : la.length ≤ 100000 := by
      have : ∀ l : List VT, l.length ≤ VT.szs l := fun l => by
        induction l with
        | nil => simp
        | cons t l ih => rw [VT.szs, List.length_cons]; cases t; rw [VT.sz]; omega
      have := this la
      rw [VT.sz] at hsz; omega
    have HX := Lib.hid (VT.refs_node ka na sa la)
    have HK := Lib.hid hk
    have HSZ := Lib.hid hsz
    clear hk hsz hlen
    unfold maxLen at a2
    by_cases h5 : ka = 5
    · subst h5
      have HR1 : Hid (IRow ((w.alloc (.cells #[.int .i64 5, .int .i64 na, .string sa, .slice ao la.length cap] 47)).alloc (.cells #[.int .i64 na] 3)) (w.heap.size + 1) (.slice (some ⟨w.heap.size + 1, 0, none⟩) 1 1) [na]) := by have := IRow.one (w.alloc (.cells #[.int .i64 5, .int .i64 na, .string sa, .slice ao la.length cap] 47)) na; show IRow _ _ _ _; simpa using this
      have hX5 : Hid ((VT.node 5 na sa la).refs = [na] ++ VT.refsL la) := by show _ = _; rw [HX.out, if_pos rfl]
      go_enter Tryz.func28, Tryz.ntmps28
      go_wp2_with (at_builtin; (refine wpList_appi (w := (w.alloc (.cells #[.int .i64 5, .int .i64 na, .string sa, .slice ao la.length cap] 47)).alloc (.cells #[.int .i64 na] 3)) rfl _ _ rfl (v := .slice none 0 0) (vx := .slice (some ⟨w.heap.size + 1, 0, none⟩) 1 1) rfl (IRow.nil _ (w.heap.size + 1)) rfl HR1.out (by simp) (by simp) ?_; intro v6 w6 hr6 ho6; have R6 := Lib.hid hr6; have B6 : Hid (Below (w.heap.size + 1) (w.alloc (.cells #[.int .i64 5, .int .i64 na, .string sa, .slice ao la.length cap] 47)) w6) := ((Below.refl _ _).alloc (by simp) _).trans (ho6.below (by simp) (by simp [Value.ownBlock])); clear hr6 ho6; have bb0 : Below (w.alloc (.cells #[.int .i64 5, .int .i64 na, .string sa, .slice ao la.length cap] 47)).heap.size (w.alloc (.cells #[.int .i64 5, .int .i64 na, .string sa, .slice ao la.length cap] 47)) w6 := (by have := B6.out; simpa using this); obtain ⟨c0, c1, c2, c3, hb6⟩ := cells_below bb0; clear bb0 hb6))
      have HL : Hid (RefsLoop (w.heap.size + 1) (w.alloc (.cells #[.int .i64 5, .int .i64 na, .string sa, .slice ao la.length cap] 47)) [na] la la.length v6 (.int .i64 0) w6) := ⟨0, [na], rfl, by omega, by simpa using R6.out, rfl, B6.out⟩
      go_loopg [3, 17] la.length (fun k s3 s17 wr => RefsLoop (w.heap.size + 1) (w.alloc (.cells #[.int .i64 5, .int .i64 na, .string sa, .slice ao la.length cap] 47)) [na] la k s3 s17 wr)
      case atStart => exact HL.out
      case round =>
        clear HL
        obtain ⟨i, pre, rfl, hik, hrow, hpre, hb⟩ := hrel
        have HB := Lib.hid hb
        have HR := Lib.hid hrow
        have HPRE := Lib.hid hpre
        have hpl : Hid (pre.length ≤ 100001) := by
          have := congrArg List.length hpre
          simp only [List.length_append] at this
          have h9 := hszl.out
          show _ ≤ _
          simp at this; omega
        have hb0 : Below (w.alloc (.cells #[.int .i64 5, .int .i64 na, .string sa, .slice ao la.length cap] 47)).heap.size (w.alloc (.cells #[.int .i64 5, .int .i64 na, .string sa, .slice ao la.length cap] 47)) wr := by simpa using hb
        obtain ⟨e0, e1, e2, e3, hb6⟩ := cells_below hb0
        have H6 := Lib.hid hb6
        have HS1 : Hid (w.heap.size + 1 ≤ wr.heap.size) := by have := HB.out.size; show _ ≤ _; simpa using this
        clear hb hrow hb6 hb0 hpre
        by_cases hlt : i < la.length
        · obtain ⟨tk, htk⟩ : ∃ u, la[i]? = some u := ⟨_, List.getElem?_eq_getElem hlt⟩
          obtain ⟨bb, oo, _, _, _, _, rfl, hbb, _⟩ := a7.get htk
          obtain ⟨_, aok, capk, p0, p1, p2, p3, hvk⟩ := a7.cells htk
          unfold vval at hvk
          rw [Nat.zero_add] at p0 p1 p2 p3
          have hbb' := hP _ hbb
          have cc : ∀ j, wr.cell? ⟨bb, j, none⟩ = w.cell? ⟨bb, j, none⟩ := fun j => H6.out.cell (p := ⟨bb, j, none⟩) hbb'
          replace p0 := (cc _).trans p0
          replace p1 := (cc _).trans p1
          replace p2 := (cc _).trans p2
          replace p3 := (cc _).trans p3
          have hvk' : Hid (ValIs wr P tk (.agg #[.int .i64 tk.kind, .int .i64 tk.num, .string tk.text, .slice aok tk.kids.length capk])) := hvk.below H6.out hP
          have hkid : Hid (tk.sz ≤ k ∧ tk.sz ≤ 100000) := by
            have h5 : tk.sz < (VT.node 5 na sa la).sz := VT.sz_kid (t := VT.node 5 na sa la) htk
            have := HK.out
            have := HSZ.out
            exact ⟨by omega, by omega⟩
          have hdrop := Lib.hid (VT.refsL_drop htk)
          have htl : Hid (tk.refs.length ≤ 100000) := Nat.le_trans (VT.refs_len tk) hkid.out.2
          have g1' : (i : Int) < (la.length : Int) := by omega
          have hi0 : (0 : Int) ≤ (i : Int) := by omega
          clear hvk htk cc
          go_wp2_with (first
            | ((go_at_call 28; refine (ih tk _ _ P hkid.out.1 (hvk'.out.below ((Below.refl _ _).alloc (Nat.le_refl _) _) (fun b hb => Nat.lt_of_lt_of_le (hP b hb) H6.out.size)) (fun x hx => by have := hP x hx; have := H6.out.size; simp; omega) hkid.out.2).mono ?_; rintro e w7 ⟨v7, rfl, hr7, hb7⟩; have R7 := Lib.hid hr7; have B7 : Hid (Below wr.heap.size wr w7) := ((Below.refl _ _).alloc (Nat.le_refl _) _).trans (hb7.mono (by simp)); clear hr7 hb7))
            | (at_builtin; (refine wpList_appi (w := w7) rfl _ _ rfl (v := u3) (vx := v7) rfl (HR.out.below B7.out) rfl R7.out (Nat.le_trans HS1.out B7.out.size) (by have := hpl.out; have := htl.out; omega) ?_; intro v9 w9 hr9 ho9; have R9 := Lib.hid hr9; have O9 := Lib.hid ho9; clear hr9 ho9)))
          go_roundg (gk - 1)
          case measure => omega
          case rel => exact ⟨i + 1, _, by go_num, by omega, R9.out, by rw [List.append_assoc, ← hdrop.out, HPRE.out], (HB.out.trans (B7.out.mono HS1.out)).trans (O9.out.below (Nat.le_trans HS1.out B7.out.size) (fun k hk => HR.out.2 k hk))⟩
        · obtain rfl : i = la.length := by omega
          have hfin : Hid (pre = (VT.node 5 na sa la).refs) := by
            have := HPRE.out
            rw [List.drop_length, VT.refsL_nil, List.append_nil] at this
            show _ = _
            rw [this, hX5.out]
          go_wp2
          go_ret
          exact ⟨_, rfl, ⟨by rw [← hfin.out]; exact HR.out.1, fun k hk => Nat.le_trans (Nat.le_succ _) (HR.out.2 k hk)⟩, H6.out⟩
    · have hX5 : Hid ((VT.node ka na sa la).refs = [] ++ VT.refsL la) := by show _ = _; rw [HX.out, if_neg h5]
      have h5' : (ka == 5) = false := by simpa using h5
      go_enter Tryz.func28, Tryz.ntmps28
      go_wp2
      have HL : Hid (RefsLoop (w.heap.size + 1) (w.alloc (.cells #[.int .i64 ka, .int .i64 na, .string sa, .slice ao la.length cap] 47)) [] la la.length (.slice none 0 0) (.int .i64 0) (w.alloc (.cells #[.int .i64 ka, .int .i64 na, .string sa, .slice ao la.length cap] 47))) := ⟨0, [], rfl, by omega, IRow.nil _ _, rfl, Below.refl _ _⟩
      go_loopg [3, 17] la.length (fun k s3 s17 wr => RefsLoop (w.heap.size + 1) (w.alloc (.cells #[.int .i64 ka, .int .i64 na, .string sa, .slice ao la.length cap] 47)) [] la k s3 s17 wr)
      case atStart => exact HL.out
      case round =>
        clear HL
        obtain ⟨i, pre, rfl, hik, hrow, hpre, hb⟩ := hrel
        have HB := Lib.hid hb
        have HR := Lib.hid hrow
        have HPRE := Lib.hid hpre
        have hpl : Hid (pre.length ≤ 100001) := by
          have := congrArg List.length hpre
          simp only [List.length_append] at this
          have h9 := hszl.out
          show _ ≤ _
          simp at this; omega
        have hb0 : Below (w.alloc (.cells #[.int .i64 ka, .int .i64 na, .string sa, .slice ao la.length cap] 47)).heap.size (w.alloc (.cells #[.int .i64 ka, .int .i64 na, .string sa, .slice ao la.length cap] 47)) wr := by simpa using hb
        obtain ⟨e0, e1, e2, e3, hb6⟩ := cells_below hb0
        have H6 := Lib.hid hb6
        have HS1 : Hid (w.heap.size + 1 ≤ wr.heap.size) := by have := HB.out.size; show _ ≤ _; simpa using this
        clear hb hrow hb6 hb0 hpre
        by_cases hlt : i < la.length
        · obtain ⟨tk, htk⟩ : ∃ u, la[i]? = some u := ⟨_, List.getElem?_eq_getElem hlt⟩
          obtain ⟨bb, oo, _, _, _, _, rfl, hbb, _⟩ := a7.get htk
          obtain ⟨_, aok, capk, p0, p1, p2, p3, hvk⟩ := a7.cells htk
          unfold vval at hvk
          rw [Nat.zero_add] at p0 p1 p2 p3
          have hbb' := hP _ hbb
          have cc : ∀ j, wr.cell? ⟨bb, j, none⟩ = w.cell? ⟨bb, j, none⟩ := fun j => H6.out.cell (p := ⟨bb, j, none⟩) hbb'
          replace p0 := (cc _).trans p0
          replace p1 := (cc _).trans p1
          replace p2 := (cc _).trans p2
          replace p3 := (cc _).trans p3
          have hvk' : Hid (ValIs wr P tk (.agg #[.int .i64 tk.kind, .int .i64 tk.num, .string tk.text, .slice aok tk.kids.length capk])) := hvk.below H6.out hP
          have hkid : Hid (tk.sz ≤ k ∧ tk.sz ≤ 100000) := by
            have h5 : tk.sz < (VT.node ka na sa la).sz := VT.sz_kid (t := VT.node ka na sa la) htk
            have := HK.out
            have := HSZ.out
            exact ⟨by omega, by omega⟩
          have hdrop := Lib.hid (VT.refsL_drop htk)
          have htl : Hid (tk.refs.length ≤ 100000) := Nat.le_trans (VT.refs_len tk) hkid.out.2
          have g1' : (i : Int) < (la.length : Int) := by omega
          have hi0 : (0 : Int) ≤ (i : Int) := by omega
          clear hvk htk cc
          go_wp2_with (first
            | ((go_at_call 28; refine (ih tk _ _ P hkid.out.1 (hvk'.out.below ((Below.refl _ _).alloc (Nat.le_refl _) _) (fun b hb => Nat.lt_of_lt_of_le (hP b hb) H6.out.size)) (fun x hx => by have := hP x hx; have := H6.out.size; simp; omega) hkid.out.2).mono ?_; rintro e w7 ⟨v7, rfl, hr7, hb7⟩; have R7 := Lib.hid hr7; have B7 : Hid (Below wr.heap.size wr w7) := ((Below.refl _ _).alloc (Nat.le_refl _) _).trans (hb7.mono (by simp)); clear hr7 hb7))
            | (at_builtin; (refine wpList_appi (w := w7) rfl _ _ rfl (v := u3) (vx := v7) rfl (HR.out.below B7.out) rfl R7.out (Nat.le_trans HS1.out B7.out.size) (by have := hpl.out; have := htl.out; omega) ?_; intro v9 w9 hr9 ho9; have R9 := Lib.hid hr9; have O9 := Lib.hid ho9; clear hr9 ho9)))
          go_roundg (gk - 1)
          case measure => omega
          case rel => exact ⟨i + 1, _, by go_num, by omega, R9.out, by rw [List.append_assoc, ← hdrop.out, HPRE.out], (HB.out.trans (B7.out.mono HS1.out)).trans (O9.out.below (Nat.le_trans HS1.out B7.out.size) (fun k hk => HR.out.2 k hk))⟩
        · obtain rfl : i = la.length := by omega
          have hfin : Hid (pre = (VT.node ka na sa la).refs) := by
            have := HPRE.out
            rw [List.drop_length, VT.refsL_nil, List.append_nil] at this
            show _ = _
            rw [this, hX5.out]
          go_wp2
          go_ret
          exact ⟨_, rfl, ⟨by rw [← hfin.out]; exact HR.out.1, fun k hk => Nat.le_trans (Nat.le_succ _) (HR.out.2 k hk)⟩, H6.out⟩
set_option maxRecDepth 100000 in
set_option maxHeartbeats 1600000 in
theorem refRefs_walk (k : Nat) : ∀ (t : VT) (vt : Value) (w : World) (P : Nat → Prop), t.sz ≤ k → ValIs w P t vt → (∀ b, P b → b < w.heap.size) → t.sz ≤ 100000 →
    Calls Tryz.prog 33 #[vt] w (RefsEnd w t.refs) := by
  induction k with
  | zero => intro t v w P hk; cases t; simp [VT.sz] at hk
  | succ k ih =>
    intro t v w P hk ht hP hsz
    cases t with
    | node ka na sa la =>
    unfold ValIs at ht
    obtain ⟨ao, cap, rfl, a1, a2, a3, a4, a5, a6, a7⟩ := ht
    have hlen := VT.refsL_len la
    have hszl : Hid ((VT.refsL la).length ≤ 100000) := by rw [VT.sz] at hsz; show _ ≤ _; omega
    have hll : la.length ≤ 100000 := by
      have : ∀ l : List VT, l.length ≤ VT.szs l := fun l => by
        induction l with
        | nil => simp
        | cons t l ih => rw [VT.szs, List.length_cons]; cases t; rw [VT.sz]; omega
      have := this la
      rw [VT.sz] at hsz; omega
    have HX := Lib.hid (VT.refs_node ka na sa la)
    have HK := Lib.hid hk
    have HSZ := Lib.hid hsz
    clear hk hsz hlen
    unfold maxLen at a2
    by_cases h5 : ka = 5
    · subst h5
      have HR1 : Hid (IRow ((w.alloc (.cells #[.int .i64 5, .int .i64 na, .string sa, .slice ao la.length cap] 47)).alloc (.cells #[.int .i64 na] 3)) (w.heap.size + 1) (.slice (some ⟨w.heap.size + 1, 0, none⟩) 1 1) [na]) := by have := IRow.one (w.alloc (.cells #[.int .i64 5, .int .i64 na, .string sa, .slice ao la.length cap] 47)) na; show IRow _ _ _ _; simpa using this
      have hX5 : Hid ((VT.node 5 na sa la).refs = [na] ++ VT.refsL la) := by show _ = _; rw [HX.out, if_pos rfl]
      go_enter Tryz.func33, Tryz.ntmps33
      go_wp2_with (at_builtin; (refine wpList_appi (w := (w.alloc (.cells #[.int .i64 5, .int .i64 na, .string sa, .slice ao la.length cap] 47)).alloc (.cells #[.int .i64 na] 3)) rfl _ _ rfl (v := .slice none 0 0) (vx := .slice (some ⟨w.heap.size + 1, 0, none⟩) 1 1) rfl (IRow.nil _ (w.heap.size + 1)) rfl HR1.out (by simp) (by simp) ?_; intro v6 w6 hr6 ho6; have R6 := Lib.hid hr6; have B6 : Hid (Below (w.heap.size + 1) (w.alloc (.cells #[.int .i64 5, .int .i64 na, .string sa, .slice ao la.length cap] 47)) w6) := ((Below.refl _ _).alloc (by simp) _).trans (ho6.below (by simp) (by simp [Value.ownBlock])); clear hr6 ho6; have bb0 : Below (w.alloc (.cells #[.int .i64 5, .int .i64 na, .string sa, .slice ao la.length cap] 47)).heap.size (w.alloc (.cells #[.int .i64 5, .int .i64 na, .string sa, .slice ao la.length cap] 47)) w6 := (by have := B6.out; simpa using this); obtain ⟨c0, c1, c2, c3, hb6⟩ := cells_below bb0; clear bb0 hb6))
      have HL : Hid (RefsLoop (w.heap.size + 1) (w.alloc (.cells #[.int .i64 5, .int .i64 na, .string sa, .slice ao la.length cap] 47)) [na] la la.length v6 (.int .i64 0) w6) := ⟨0, [na], rfl, by omega, by simpa using R6.out, rfl, B6.out⟩
      go_loopg [3, 4] la.length (fun k s3 s17 wr => RefsLoop (w.heap.size + 1) (w.alloc (.cells #[.int .i64 5, .int .i64 na, .string sa, .slice ao la.length cap] 47)) [na] la k s3 s17 wr)
      case atStart => exact HL.out
      case round =>
        clear HL
        obtain ⟨i, pre, rfl, hik, hrow, hpre, hb⟩ := hrel
        have HB := Lib.hid hb
        have HR := Lib.hid hrow
        have HPRE := Lib.hid hpre
        have hpl : Hid (pre.length ≤ 100001) := by
          have := congrArg List.length hpre
          simp only [List.length_append] at this
          have h9 := hszl.out
          show _ ≤ _
          simp at this; omega
        have hb0 : Below (w.alloc (.cells #[.int .i64 5, .int .i64 na, .string sa, .slice ao la.length cap] 47)).heap.size (w.alloc (.cells #[.int .i64 5, .int .i64 na, .string sa, .slice ao la.length cap] 47)) wr := by simpa using hb
        obtain ⟨e0, e1, e2, e3, hb6⟩ := cells_below hb0
        have H6 := Lib.hid hb6
        have HS1 : Hid (w.heap.size + 1 ≤ wr.heap.size) := by have := HB.out.size; show _ ≤ _; simpa using this
        clear hb hrow hb6 hb0 hpre
        by_cases hlt : i < la.length
        · obtain ⟨tk, htk⟩ : ∃ u, la[i]? = some u := ⟨_, List.getElem?_eq_getElem hlt⟩
          obtain ⟨bb, oo, _, _, _, _, rfl, hbb, _⟩ := a7.get htk
          obtain ⟨_, aok, capk, p0, p1, p2, p3, hvk⟩ := a7.cells htk
          unfold vval at hvk
          rw [Nat.zero_add] at p0 p1 p2 p3
          have hbb' := hP _ hbb
          have cc : ∀ j, wr.cell? ⟨bb, j, none⟩ = w.cell? ⟨bb, j, none⟩ := fun j => H6.out.cell (p := ⟨bb, j, none⟩) hbb'
          replace p0 := (cc _).trans p0
          replace p1 := (cc _).trans p1
          replace p2 := (cc _).trans p2
          replace p3 := (cc _).trans p3
          have hvk' : Hid (ValIs wr P tk (.agg #[.int .i64 tk.kind, .int .i64 tk.num, .string tk.text, .slice aok tk.kids.length capk])) := hvk.below H6.out hP
          have hkid : Hid (tk.sz ≤ k ∧ tk.sz ≤ 100000) := by
            have h5 : tk.sz < (VT.node 5 na sa la).sz := VT.sz_kid (t := VT.node 5 na sa la) htk
            have := HK.out
            have := HSZ.out
            exact ⟨by omega, by omega⟩
          have hdrop := Lib.hid (VT.refsL_drop htk)
          have htl : Hid (tk.refs.length ≤ 100000) := Nat.le_trans (VT.refs_len tk) hkid.out.2
          have g1' : (i : Int) < (la.length : Int) := by omega
          have hi0 : (0 : Int) ≤ (i : Int) := by omega
          clear hvk htk cc
          go_wp2_with (first
            | ((go_at_call 33; refine (ih tk _ _ P hkid.out.1 (hvk'.out.below (Below.refl _ _) (fun b hb => Nat.lt_of_lt_of_le (hP b hb) H6.out.size)) (fun x hx => by have := hP x hx; have := H6.out.size; omega) hkid.out.2).mono ?_; rintro e w7 ⟨v7, rfl, hr7, hb7⟩; have R7 := Lib.hid hr7; have B7 : Hid (Below wr.heap.size wr w7) := (Below.refl _ _).trans (hb7.mono (by exact Nat.le_refl _)); clear hr7 hb7))
            | (at_builtin; (refine wpList_appi (w := w7) rfl _ _ rfl (v := u3) (vx := v7) rfl (HR.out.below B7.out) rfl R7.out (Nat.le_trans HS1.out B7.out.size) (by have := hpl.out; have := htl.out; omega) ?_; intro v9 w9 hr9 ho9; have R9 := Lib.hid hr9; have O9 := Lib.hid ho9; clear hr9 ho9)))
          go_roundg (gk - 1)
          case measure => omega
          case rel => exact ⟨i + 1, _, by go_num, by omega, R9.out, by rw [List.append_assoc, ← hdrop.out, HPRE.out], (HB.out.trans (B7.out.mono HS1.out)).trans (O9.out.below (Nat.le_trans HS1.out B7.out.size) (fun k hk => HR.out.2 k hk))⟩
        · obtain rfl : i = la.length := by omega
          have hfin : Hid (pre = (VT.node 5 na sa la).refs) := by
            have := HPRE.out
            rw [List.drop_length, VT.refsL_nil, List.append_nil] at this
            show _ = _
            rw [this, hX5.out]
          go_wp2
          go_ret
          exact ⟨_, rfl, ⟨by rw [← hfin.out]; exact HR.out.1, fun k hk => Nat.le_trans (Nat.le_succ _) (HR.out.2 k hk)⟩, H6.out⟩
    · have hX5 : Hid ((VT.node ka na sa la).refs = [] ++ VT.refsL la) := by show _ = _; rw [HX.out, if_neg h5]
      have h5' : (ka == 5) = false := by simpa using h5
      go_enter Tryz.func33, Tryz.ntmps33
      go_wp2
      have HL : Hid (RefsLoop (w.heap.size + 1) (w.alloc (.cells #[.int .i64 ka, .int .i64 na, .string sa, .slice ao la.length cap] 47)) [] la la.length (.slice none 0 0) (.int .i64 0) (w.alloc (.cells #[.int .i64 ka, .int .i64 na, .string sa, .slice ao la.length cap] 47))) := ⟨0, [], rfl, by omega, IRow.nil _ _, rfl, Below.refl _ _⟩
      go_loopg [3, 4] la.length (fun k s3 s17 wr => RefsLoop (w.heap.size + 1) (w.alloc (.cells #[.int .i64 ka, .int .i64 na, .string sa, .slice ao la.length cap] 47)) [] la k s3 s17 wr)
      case atStart => exact HL.out
      case round =>
        clear HL
        obtain ⟨i, pre, rfl, hik, hrow, hpre, hb⟩ := hrel
        have HB := Lib.hid hb
        have HR := Lib.hid hrow
        have HPRE := Lib.hid hpre
        have hpl : Hid (pre.length ≤ 100001) := by
          have := congrArg List.length hpre
          simp only [List.length_append] at this
          have h9 := hszl.out
          show _ ≤ _
          simp at this; omega
        have hb0 : Below (w.alloc (.cells #[.int .i64 ka, .int .i64 na, .string sa, .slice ao la.length cap] 47)).heap.size (w.alloc (.cells #[.int .i64 ka, .int .i64 na, .string sa, .slice ao la.length cap] 47)) wr := by simpa using hb
        obtain ⟨e0, e1, e2, e3, hb6⟩ := cells_below hb0
        have H6 := Lib.hid hb6
        have HS1 : Hid (w.heap.size + 1 ≤ wr.heap.size) := by have := HB.out.size; show _ ≤ _; simpa using this
        clear hb hrow hb6 hb0 hpre
        by_cases hlt : i < la.length
        · obtain ⟨tk, htk⟩ : ∃ u, la[i]? = some u := ⟨_, List.getElem?_eq_getElem hlt⟩
          obtain ⟨bb, oo, _, _, _, _, rfl, hbb, _⟩ := a7.get htk
          obtain ⟨_, aok, capk, p0, p1, p2, p3, hvk⟩ := a7.cells htk
          unfold vval at hvk
          rw [Nat.zero_add] at p0 p1 p2 p3
          have hbb' := hP _ hbb
          have cc : ∀ j, wr.cell? ⟨bb, j, none⟩ = w.cell? ⟨bb, j, none⟩ := fun j => H6.out.cell (p := ⟨bb, j, none⟩) hbb'
          replace p0 := (cc _).trans p0
          replace p1 := (cc _).trans p1
          replace p2 := (cc _).trans p2
          replace p3 := (cc _).trans p3
          have hvk' : Hid (ValIs wr P tk (.agg #[.int .i64 tk.kind, .int .i64 tk.num, .string tk.text, .slice aok tk.kids.length capk])) := hvk.below H6.out hP
          have hkid : Hid (tk.sz ≤ k ∧ tk.sz ≤ 100000) := by
            have h5 : tk.sz < (VT.node ka na sa la).sz := VT.sz_kid (t := VT.node ka na sa la) htk
            have := HK.out
            have := HSZ.out
            exact ⟨by omega, by omega⟩
          have hdrop := Lib.hid (VT.refsL_drop htk)
          have htl : Hid (tk.refs.length ≤ 100000) := Nat.le_trans (VT.refs_len tk) hkid.out.2
          have g1' : (i : Int) < (la.length : Int) := by omega
          have hi0 : (0 : Int) ≤ (i : Int) := by omega
          clear hvk htk cc
          go_wp2_with (first
            | ((go_at_call 33; refine (ih tk _ _ P hkid.out.1 (hvk'.out.below (Below.refl _ _) (fun b hb => Nat.lt_of_lt_of_le (hP b hb) H6.out.size)) (fun x hx => by have := hP x hx; have := H6.out.size; omega) hkid.out.2).mono ?_; rintro e w7 ⟨v7, rfl, hr7, hb7⟩; have R7 := Lib.hid hr7; have B7 : Hid (Below wr.heap.size wr w7) := (Below.refl _ _).trans (hb7.mono (by exact Nat.le_refl _)); clear hr7 hb7))
            | (at_builtin; (refine wpList_appi (w := w7) rfl _ _ rfl (v := u3) (vx := v7) rfl (HR.out.below B7.out) rfl R7.out (Nat.le_trans HS1.out B7.out.size) (by have := hpl.out; have := htl.out; omega) ?_; intro v9 w9 hr9 ho9; have R9 := Lib.hid hr9; have O9 := Lib.hid ho9; clear hr9 ho9)))
          go_roundg (gk - 1)
          case measure => omega
          case rel => exact ⟨i + 1, _, by go_num, by omega, R9.out, by rw [List.append_assoc, ← hdrop.out, HPRE.out], (HB.out.trans (B7.out.mono HS1.out)).trans (O9.out.below (Nat.le_trans HS1.out B7.out.size) (fun k hk => HR.out.2 k hk))⟩
        · obtain rfl : i = la.length := by omega
          have hfin : Hid (pre = (VT.node ka na sa la).refs) := by
            have := HPRE.out
            rw [List.drop_length, VT.refsL_nil, List.append_nil] at this
            show _ = _
            rw [this, hX5.out]
          go_wp2
          go_ret
          exact ⟨_, rfl, ⟨by rw [← hfin.out]; exact HR.out.1, fun k hk => Nat.le_trans (Nat.le_succ _) (HR.out.2 k hk)⟩, H6.out⟩
end Go.Proofs.YtenikoecnfbfoaaGreatDoor
/- A value that names other objects: the program's move. -/
namespace Go.Proofs.YtenikoecnfbfoaaGreatDoor
open Go.RowKit Go.Maps Wr
set_option linter.unusedVariables false

namespace VT
mutual
def move (f : Int → Option Int) : VT → Option VT
  | node k n s l => match (if k = 5 then f n else some n) with
    | none => none
    | some n' => match moves f l with
      | none => none
      | some l' => some (node k n' s l')
def moves (f : Int → Option Int) : List VT → Option (List VT)
  | [] => some []
  | t :: l => match move f t with
    | none => none
    | some t' => match moves f l with
      | none => none
      | some l' => some (t' :: l')
end
theorem moves_nil (f : Int → Option Int) : moves f [] = some [] := by rw [moves]
theorem moves_none {f : Int → Option Int} {t : VT} (l : List VT) (h : move f t = none) : moves f (t :: l) = none := by rw [moves, h]
theorem moves_some {f : Int → Option Int} {t t' : VT} (l : List VT) (h : move f t = some t') : moves f (t :: l) = (moves f l).map (t' :: ·) := by rw [moves, h]; cases moves f l <;> rfl
theorem moves_len {f : Int → Option Int} : ∀ {l l' : List VT}, moves f l = some l' → l'.length = l.length
  | [], l', h => by rw [moves_nil] at h; cases h; rfl
  | t :: l, l', h => by
    cases hm : move f t with
    | none => rw [moves_none l hm] at h; cases h
    | some t' =>
      rw [moves_some l hm] at h
      cases hl : moves f l with
      | none => rw [hl] at h; cases h
      | some l2 => rw [hl] at h; cases h; simp [moves_len hl]
end VT

/-- The cells of a row of kids. -/
theorem KidsAt.row {w : World} {P : Nat → Prop} {b off : Nat} : ∀ {l : List VT} {j : Nat}, KidsAt w P l (some ⟨b, off, none⟩) j → ∃ ps : List (Option Addr × Nat), ps.length = l.length ∧ (∀ i u, (kcells l ps)[i]? = some u → w.cell? ⟨b, off + j * 4 + i, none⟩ = some u) ∧
    ∀ (i : Nat) (t : VT) (p : Option Addr × Nat), l[i]? = some t → ps[i]? = some p → ValIs w P t (vval t p.1 p.2)
  | [], j, _ => ⟨[], rfl, (fun i u h => by simp [kcells] at h), (fun i t p h => by cases h)⟩
  | t :: l, j, h => by
    have hc := h.cells (i := 0) rfl
    obtain ⟨_, ao, cap, c0, c1, c2, c3, hv⟩ := hc
    rw [Nat.add_zero] at c0 c1 c2 c3
    unfold KidsAt at h
    obtain ⟨ps, h1, h2, h3⟩ := h.2.row
    refine ⟨(ao, cap) :: ps, by simp [h1], fun i u hu => ?_, fun i u p hu hp => ?_⟩
    · rw [kcells] at hu
      by_cases hi : i < 4
      · rw [List.getElem?_append_left (by simpa [kcell] using hi)] at hu
        have : i = 0 ∨ i = 1 ∨ i = 2 ∨ i = 3 := by omega
        rcases this with rfl | rfl | rfl | rfl
        · simp [kcell] at hu; subst hu; exact c0
        · simp [kcell] at hu; subst hu; exact c1
        · simp [kcell] at hu; subst hu; exact c2
        · simp [kcell] at hu; subst hu; exact c3
      · rw [List.getElem?_append_right (by simp [kcell]; omega)] at hu
        have := h2 _ u hu
        rw [show off + (j + 1) * 4 + (i - (kcell t (ao, cap)).length) = off + j * 4 + i by simp [kcell]; omega] at this
        exact this
    · cases i with
      | zero =>
        rw [List.getElem?_cons_zero] at hu hp
        cases hu; cases hp
        exact hv
      | succ i =>
        rw [List.getElem?_cons_succ] at hu hp
        exact h3 i u p hu hp
theorem kcells_set : ∀ {l : List VT} {ps : List (Option Addr × Nat)} {i : Nat} (t : VT) (p : Option Addr × Nat), ps.length = l.length → i < l.length →
    (((((kcells l ps).set (i * 4) (.int .i64 t.kind)).set (i * 4 + 1) (.int .i64 t.num)).set (i * 4 + 2) (.string t.text)).set (i * 4 + 3) (.slice p.1 t.kids.length p.2)) = kcells (l.set i t) (ps.set i p)
  | [], _, i, t, p, _, h => by simp at h
  | u :: l, [], i, t, p, h, _ => by simp at h
  | u :: l, q :: ps, 0, t, p, h, _ => by simp [kcells, kcell]
  | u :: l, q :: ps, i + 1, t, p, h, hi => by
    simp only [List.length_cons] at h hi
    have ih := kcells_set (i := i) t p (show ps.length = l.length by omega) (by omega)
    have e : ∀ (xs : List Value) (j : Nat) (v : Value), (kcell u q ++ xs).set (4 + j) v = kcell u q ++ xs.set j v := fun xs j v => by
      rw [List.set_append, if_neg (by simp [kcell])]
      simp [kcell]
    rw [List.set_cons_succ, List.set_cons_succ, kcells, kcells, ← ih]
    rw [show (i + 1) * 4 = 4 + i * 4 by omega, show 4 + i * 4 + 1 = 4 + (i * 4 + 1) by omega, show 4 + i * 4 + 2 = 4 + (i * 4 + 2) by omega, show 4 + i * 4 + 3 = 4 + (i * 4 + 3) by omega, e, e, e, e]

theorem kcells_one : ∀ (l : List VT) (ps : List (Option Addr × Nat)), ∀ u ∈ kcells l ps, u.oneCell' = true
  | [], _, u, h => by simp [kcells] at h
  | _ :: _, [], u, h => by simp [kcells] at h
  | t :: l, p :: ps, u, h => by
    rw [kcells, List.mem_append] at h
    rcases h with h | h
    · exact kcell_one t p u h
    · exact kcells_one l ps u h
/-- A row of values of its own at the block g. -/
def MRow (w : World) (Q : Nat → Prop) (g cap : Nat) (l : List VT) : Prop :=
  ∃ ps : List (Option Addr × Nat), ps.length = l.length ∧ RowZ w 47 4 (.slice (some ⟨g, 0, none⟩) l.length cap) l.length (kcells l ps) ∧ ∀ (i : Nat) (t : VT) (p : Option Addr × Nat), l[i]? = some t → ps[i]? = some p → ValIs w (fun b => Q b ∧ b < w.heap.size ∧ b ≠ g) t (vval t p.1 p.2)
def CloneEnd (w : World) (P : Nat → Prop) (l : List VT) (e : Ending) (w' : World) : Prop :=
  Below w.heap.size w w' ∧ ((l = [] ∧ e = .returned (.slice none 0 0)) ∨ ∃ g cap, e = .returned (.slice (some ⟨g, 0, none⟩) l.length cap) ∧ w.heap.size ≤ g ∧ MRow w' P g cap l)
set_option maxRecDepth 100000 in
theorem kclone_any (l : List VT) (ao : Option Addr) (cap : Nat) (w : World) (P : Nat → Prop) (h1 : l.length ≤ cap) (h2 : cap ≤ maxLen) (h3 : l.length ≤ 1000000) (h0 : ao = none → cap = 0) (hk : KidsAt w P l ao 0) (hP : ∀ b, P b → b < w.heap.size) :
    Calls Tryz.prog 71 #[.slice ao l.length cap] w (CloneEnd w P l) := by
  cases ao with
  | none =>
    have hc := h0 rfl
    subst hc
    have hb : l = [] := List.length_eq_zero_iff.1 (by omega)
    subst hb
    clear hk h0 h1 h2 h3
    have he : ∀ w : World, (binOp .eql 29 (.slice none 0 0) (.slice none 0 0)).run Tryz.prog w = .ok (.bool true) w := fun _ => rfl
    go_enter Tryz.func71, Tryz.ntmps71
    go_wp2
    go_ret
    exact ⟨Below.refl _ _, .inl ⟨rfl, rfl⟩⟩
  | some A =>
    obtain ⟨i0, hi, hz0, hz1, hz2⟩ := info_parts infoV
    have hown0 : (w.alloc (.cells #[] 47)).ownsRow w.heap.size 47 4 (.slice (some ⟨w.heap.size, 0, none⟩) 0 0) 0 [] :=
      ⟨rfl, .inr ⟨w.heap.size, 0, #[], rfl, Nat.le_refl _, by show (w.heap.push _)[w.heap.size]? = _; simp, Nat.le_refl _, by unfold maxLen; omega, rfl, rfl⟩⟩
    have he : ∀ w : World, (binOp .eql 29 (.slice (some A) l.length cap) (.slice none 0 0)).run Tryz.prog w = .ok (.bool false) w := fun _ => rfl
    obtain ⟨ps, k1, k2, k3⟩ : ∃ ps : List (Option Addr × Nat), ps.length = l.length ∧ (∀ i u, (kcells l ps)[i]? = some u → w.cell? (A.add i) = some u) ∧ ∀ (i : Nat) (t : VT) (p : Option Addr × Nat), l[i]? = some t → ps[i]? = some p → ValIs w P t (vval t p.1 p.2) := by
      cases l with
      | nil => exact ⟨[], rfl, (fun i u h => by simp [kcells] at h), (fun i t p h => by cases h)⟩
      | cons t l =>
        obtain ⟨b, off, _, _, _, _, e, _⟩ := hk.get (i := 0) rfl
        cases e
        obtain ⟨ps, k1, k2, k3⟩ := hk.row
        refine ⟨ps, k1, fun i u hu => ?_, k3⟩
        have := k2 i u hu
        rw [Nat.zero_mul, Nat.add_zero] at this
        rw [show (Addr.add ⟨b, off, none⟩ i) = ⟨b, off + i, none⟩ by unfold Addr.add; split <;> simp_all]
        exact this
    have K1 := Lib.hid k1
    have K2 := Lib.hid k2
    have K3 := Lib.hid k3
    have hcl := kcells_length k1
    have HCL := Lib.hid hcl
    have hone : ∀ u ∈ kcells l ps, u.oneCell' = true := kcells_one l ps
    clear hk k1 k2 k3 hcl
    unfold maxLen at h2
    go_enter Tryz.func71, Tryz.ntmps71
    go_wp2_with (at_builtin; refine wpList_append_own _ rfl (.tmp 5) (.tmp 6) 29 rfl w.heap.size 47 i0 _ 4 56 Tryz.underlying29 hi hz0 hz1 hz2 rfl (by decide) _ _ _ rfl hown0 A l.length cap (kcells l ps) rfl (by rw [HCL.out]) ?c1 hone (by unfold maxLen; omega) (by omega) (by simp) ?_)
    case c1 =>
      intro j u hu
      have hc := K2.out j u hu
      have hb : (A.add j).block < w.heap.size := World.block_lt_of_cell? _ _ hc
      rw [((Below.refl w.heap.size w).alloc (Nat.le_refl _) _).cell hb, hc]
    intro v' w1 hown' hgrow hnil
    have hB : Below w.heap.size w w1 := ((Below.refl _ _).alloc (Nat.le_refl _) _).grown hgrow (by simp) (fun k hk => by simp [Value.ownBlock] at hk; omega)
    go_wp2
    go_ret
    refine ⟨hB, .inr ?_⟩
    replace hown' : w1.ownsRow w.heap.size 47 4 v' l.length (kcells l ps) := by simpa using hown'
    rcases hown'.2 with ⟨rfl, _⟩ | ⟨g, cap', cur, rfl, hg, rest⟩
    · exact absurd rfl hnil
    · refine ⟨g, cap', rfl, hg, ps, K1.out, ⟨hown'.1, .inr ⟨g, cap', cur, rfl, Nat.zero_le _, rest⟩⟩, fun i t p ht hp => ?_⟩
      exact ((K3.out i t p ht hp).below hB hP).mono (fun b hb => ⟨hb, Nat.lt_of_lt_of_le (hP b hb) hB.size, by have := hP b hb; omega⟩)

section
variable {w w' : World} {Q : Nat → Prop} {g cap : Nat} {l : List VT}
theorem MRow.lt (h : MRow w Q g cap l) : g < w.heap.size := by obtain ⟨ps, _, h2, _⟩ := h; exact h2.lt rfl
theorem MRow.chg {F : List Nat} (h : MRow w Q g cap l) (hc : Chg F w w') (hg : g ∉ F) (hF : ∀ b, Q b → b ∉ F) : MRow w' Q g cap l := by
  obtain ⟨ps, h1, h2, h3⟩ := h
  refine ⟨ps, h1, h2.chg hc (fun k hk => by cases hk; exact hg), fun i t p ht hp => ?_⟩
  exact ((h3 i t p ht hp).chg hc (fun b hb => ⟨hb.2.1, hF b hb.1⟩)).mono fun b hb => ⟨hb.1, Nat.lt_of_lt_of_le hb.2.1 hc.size, hb.2.2⟩
theorem MRow.mono {Q' : Nat → Prop} (h : MRow w Q g cap l) (hQ : ∀ b, Q b → Q' b) : MRow w Q' g cap l := by
  obtain ⟨ps, h1, h2, h3⟩ := h
  exact ⟨ps, h1, h2, fun i t p ht hp => (h3 i t p ht hp).mono fun b hb => ⟨hQ b hb.1, hb.2⟩⟩
theorem MRow.get {i : Nat} {t : VT} (h : MRow w Q g cap l) (hi : l[i]? = some t) : ∃ ao c, w.cell? ⟨g, i * 4, none⟩ = some (.int .i64 t.kind) ∧ w.cell? ⟨g, i * 4 + 1, none⟩ = some (.int .i64 t.num) ∧ w.cell? ⟨g, i * 4 + 2, none⟩ = some (.string t.text) ∧ w.cell? ⟨g, i * 4 + 3, none⟩ = some (.slice ao t.kids.length c) ∧ ValIs w (fun b => Q b ∧ b < w.heap.size ∧ b ≠ g) t (vval t ao c) := by
  obtain ⟨ps, h1, h2, h3⟩ := h
  have hil := (List.getElem?_eq_some_iff.1 hi).1
  obtain ⟨p, hp⟩ : ∃ p, ps[i]? = some p := ⟨_, List.getElem?_eq_getElem (by omega)⟩
  have hlen := kcells_length h1
  have c : ∀ r, r < 4 → w.cell? ⟨g, i * 4 + r, none⟩ = (kcell t p)[r]? := fun r hr => by
    rw [← kcells_get hi hp hr]
    exact h2.cellAt _ (by rw [hlen]; omega)
  exact ⟨p.1, p.2, c 0 (by omega), c 1 (by omega), c 2 (by omega), c 3 (by omega), h3 i t p hi hp⟩
theorem MRow.frozen (h : MRow w Q g cap l) (j : Nat) : w.frozen? ⟨g, j, none⟩ = false := by
  obtain ⟨ps, h1, h2, h3⟩ := h
  exact World.ownsRow.frozenAt h2 j
/-- A kid is another. -/
theorem MRow.set {i : Nat} {t : VT} {ao : Option Addr} {c : Nat} (h : MRow w Q g cap l) (hi : i < l.length) (ht : ValIs w (fun b => Q b ∧ b < w.heap.size ∧ b ≠ g) t (vval t ao c)) :
    MRow ((((w.setCell ⟨g, i * 4, none⟩ (.int .i64 t.kind)).setCell ⟨g, i * 4 + 1, none⟩ (.int .i64 t.num)).setCell ⟨g, i * 4 + 2, none⟩ (.string t.text)).setCell ⟨g, i * 4 + 3, none⟩ (.slice ao t.kids.length c)) Q g cap (l.set i t) ∧
    Chg [g] w ((((w.setCell ⟨g, i * 4, none⟩ (.int .i64 t.kind)).setCell ⟨g, i * 4 + 1, none⟩ (.int .i64 t.num)).setCell ⟨g, i * 4 + 2, none⟩ (.string t.text)).setCell ⟨g, i * 4 + 3, none⟩ (.slice ao t.kids.length c)) := by
  obtain ⟨ps, h1, h2, h3⟩ := h
  have hc : Chg [g] w ((((w.setCell ⟨g, i * 4, none⟩ (.int .i64 t.kind)).setCell ⟨g, i * 4 + 1, none⟩ (.int .i64 t.num)).setCell ⟨g, i * 4 + 2, none⟩ (.string t.text)).setCell ⟨g, i * 4 + 3, none⟩ (.slice ao t.kids.length c)) :=
    ((((Chg.refl [g] w).setCell (p := ⟨g, i * 4, none⟩) (.inl (by simp)) _).setCell (p := ⟨g, i * 4 + 1, none⟩) (.inl (by simp)) _).setCell (p := ⟨g, i * 4 + 2, none⟩) (.inl (by simp)) _).setCell (p := ⟨g, i * 4 + 3, none⟩) (.inl (by simp)) _
  refine ⟨⟨ps.set i (ao, c), by simp [h1], ?_, fun j u p hu hp => ?_⟩, hc⟩
  · have s1 := (World.ownsRow.stored h2 (i * 4) (.int .i64 t.kind)).1
    have s2 := (World.ownsRow.stored s1 (i * 4 + 1) (.int .i64 t.num)).1
    have s3 := (World.ownsRow.stored s2 (i * 4 + 2) (.string t.text)).1
    have s4 := (World.ownsRow.stored s3 (i * 4 + 3) (.slice ao t.kids.length c)).1
    rw [kcells_set t (ao, c) h1 hi] at s4
    rw [List.length_set]
    exact s4
  · have hq : ValIs w (fun b => Q b ∧ b < w.heap.size ∧ b ≠ g) u (vval u p.1 p.2) := by
      by_cases e : j = i
      · subst e
        rw [List.getElem?_set_self (by omega)] at hu hp
        cases hu; cases hp
        exact ht
      · rw [List.getElem?_set_ne (by omega)] at hu hp
        exact h3 j u p hu hp
    exact (hq.chg hc (fun b hb => ⟨hb.2.1, by simp; exact hb.2.2⟩)).mono fun b hb => ⟨hb.1, Nat.lt_of_lt_of_le hb.2.1 hc.size, hb.2.2⟩
theorem MRow.kids {Q' : Nat → Prop} (h : MRow w Q g cap l) (hQ : ∀ b, Q b ∧ b < w.heap.size ∧ b ≠ g → Q' b) (hg : Q' g) : l.length ≤ cap ∧ cap ≤ maxLen ∧ KidsAt w Q' l (some ⟨g, 0, none⟩) 0 := by
  have hh := h
  obtain ⟨ps, h1, h2, h3⟩ := h
  obtain ⟨ao, cap', e, hle, hm, _⟩ := h2.form
  simp only [Value.slice.injEq, true_and] at e
  obtain ⟨_, rfl⟩ := e
  refine ⟨hle, hm, KidsAt.mk fun i t ht => ?_⟩
  obtain ⟨ao, c, c0, c1, c2, c3, hv⟩ := hh.get ht
  refine ⟨g, 0, _, _, _, _, rfl, hg, ?_, ?_, ?_, ?_, hv.mono hQ⟩
  · rw [Nat.zero_add, Nat.zero_add]; exact c0
  · rw [Nat.zero_add, Nat.zero_add]; exact c1
  · rw [Nat.zero_add, Nat.zero_add]; exact c2
  · rw [Nat.zero_add, Nat.zero_add]; exact c3
end
theorem below_chg {w w' : World} (h : Below w.heap.size w w') : Chg [] w w' := ⟨h.os, h.tape, h.output, h.size, fun k hk _ => h.block k hk⟩
def zeroT : VT := .node 0 0 ⟨#[]⟩ []
def MoveEnd (w : World) (P : Nat → Prop) (r : Option VT) (e : Ending) (w' : World) : Prop :=
  ∃ v, e = .returned (.tuple #[v, .bool r.isSome]) ∧ ValIs w' (fun b => (P b ∨ w.heap.size ≤ b) ∧ b < w'.heap.size) (r.getD zeroT) v ∧ Below w.heap.size w w'
end Go.Proofs.YtenikoecnfbfoaaGreatDoor
/- The program's move: the walk. -/
namespace Go.Proofs.YtenikoecnfbfoaaGreatDoor
open Go.RowKit Go.Maps Wr
set_option linter.unusedVariables false

/-- Behind the question whether it is a reference. -/
def MvHead (w W2 : World) (k n' : Int) (s : ByteArray) (ao : Option Addr) (len cap : Nat) (wx : World) : Prop :=
  wx.heap[w.heap.size]? = some (.cells #[.int .i64 k, .int .i64 n', .string s, .slice ao len cap] 47 (0, 0)) ∧ Chg [w.heap.size] W2 wx
def MvLoop (w W6 : World) (Q : Nat → Prop) (f : Int → Option Int) (k n' : Int) (s : ByteArray) (g cap : Nat) (la : List VT) (gk : Nat) (s34 : Value) (wr : World) : Prop :=
  ∃ (i : Nat) (done : List VT), s34 = .int .i64 i ∧ done.length = i ∧ i + gk = la.length ∧ MRow wr (fun b => Q b ∨ w.heap.size + 2 ≤ b) g cap (done ++ la.drop i) ∧ VT.moves f la = (VT.moves f (la.drop i)).map (done ++ ·) ∧ Chg [g] W6 wr

set_option maxRecDepth 100000 in
theorem zeroI (w : World) : (zeroValue 3).run Tryz.prog w = .ok (.int .i64 0) w := Tryz.zeroValue3 w
theorem move_none {f : Int → Option Int} {k n : Int} {s : ByteArray} {l : List VT} (h : (if k = 5 then f n else some n) = none) : VT.move f (.node k n s l) = none := by rw [VT.move, h]
theorem move_kids {f : Int → Option Int} {k n n' : Int} {s : ByteArray} {l : List VT} (h : (if k = 5 then f n else some n) = some n') : VT.move f (.node k n s l) = (VT.moves f l).map (.node k n' s ·) := by rw [VT.move, h]; cases VT.moves f l <;> rfl

theorem zero_ret {w wz : World} {P : Nat → Prop} (hb : Below w.heap.size w wz) : MoveEnd w P none (.returned (.tuple #[.agg #[.int .i64 0, .int .i64 0, .string ⟨#[]⟩, .slice none 0 0], .bool false])) wz :=
  ⟨_, rfl, leaf_is _ _ 0 0 ⟨#[]⟩ (by decide) (by decide) (sz_max _ (by decide)), hb⟩

theorem kclone_one (l : List VT) (ao : Option Addr) (cap : Nat) (w : World) (P : Nat → Prop) (h1 : l.length ≤ cap) (h2 : cap ≤ maxLen) (h3 : l.length ≤ 1000000) (h0 : ao = none → cap = 0) (hk : KidsAt w P l ao 0) (hP : ∀ b, P b → b < w.heap.size) :
    Calls Tryz.prog 71 #[.slice ao l.length cap] w fun e w' => ∃ so c, e = .returned (.slice so l.length c) ∧ Below w.heap.size w w' ∧ ((l = [] ∧ so = none ∧ c = 0) ∨ ∃ g, so = some ⟨g, 0, none⟩ ∧ w.heap.size ≤ g ∧ MRow w' P g c l) :=
  (kclone_any l ao cap w P h1 h2 h3 h0 hk hP).mono fun e w' h => by
    obtain ⟨hb, ⟨rfl, rfl⟩ | ⟨g, c, rfl, h1, h2⟩⟩ := h
    · exact ⟨none, 0, rfl, hb, .inl ⟨rfl, rfl, rfl⟩⟩
    · exact ⟨_, c, rfl, hb, .inr ⟨g, rfl, h1, h2⟩⟩
theorem VT.szs_len : ∀ l : List VT, l.length ≤ VT.szs l
  | [] => by simp
  | t :: l => by
    have := VT.szs_len l
    have h1 : 1 ≤ t.sz := by cases t; rw [VT.sz]; omega
    rw [VT.szs, List.length_cons]; omega
theorem mv_list {done la : List VT} {i : Nat} {tk tk' : VT} (hd : la.drop i = tk :: la.drop (i + 1)) (hl : done.length = i) : (done ++ la.drop i).set i tk' = done ++ ([tk'] ++ la.drop (i + 1)) := by
  rw [hd, List.set_append, if_neg (by omega), hl, Nat.sub_self]
  rfl
theorem mv_end {w wr wz : World} {P : Nat → Prop} {k n' : Int} {s : ByteArray} {l : List VT} {so : Option Addr} {c : Nat} (hk : (Lit.int .i64 k).wf = true) (hn : (Lit.int .i64 n').wf = true) (hs : s.size ≤ maxLen) (hle : l.length ≤ c) (hm : c ≤ maxLen) (h0 : so = none → c = 0)
    (hkids : KidsAt wr (fun b => (P b ∨ w.heap.size ≤ b) ∧ b < wr.heap.size ∧ b ≠ w.heap.size + 1) l so 0) (hz : Chg [w.heap.size + 1] wr wz) (hb : Below w.heap.size w wr) : MoveEnd w P (some (.node k n' s l)) (.returned (.tuple #[.agg #[.int .i64 k, .int .i64 n', .string s, .slice so l.length c], .bool true])) wz := by
  refine ⟨_, rfl, ?_, hb.trans (hz.below hb.size (by simp))⟩
  have hv : ValIs wr (fun b => (P b ∨ w.heap.size ≤ b) ∧ b < wr.heap.size ∧ b ≠ w.heap.size + 1) (.node k n' s l) (.agg #[.int .i64 k, .int .i64 n', .string s, .slice so l.length c]) := by
    unfold ValIs
    exact ⟨so, c, rfl, hle, hm, hs, hk, hn, h0, hkids⟩
  exact (hv.chg hz (fun b hb => ⟨hb.2.1, by simp; exact hb.2.2⟩)).mono (fun b hb => ⟨hb.1, Nat.lt_of_lt_of_le hb.2.1 hz.size⟩)
set_option maxRecDepth 100000 in
set_option maxHeartbeats 1600000 in
theorem move_walk (f : Int → Option Int) (mb nm : Nat) (k : Nat) : ∀ (t : VT) (v : Value) (w : World) (P : Nat → Prop), t.sz ≤ k → t.sz ≤ 100000 → ValIs w P t v → (∀ b, P b → b < w.heap.size) → IMap Tryz.prog 3 3 w mb nm f → (∀ a c, f a = some c → (Lit.int .i64 c).wf = true) →
    Calls Tryz.prog 51 #[v, .map (some mb)] w (MoveEnd w P (t.move f)) := by
  induction k with
  | zero => intro t v w P hk; cases t; simp [VT.sz] at hk
  | succ k ih =>
    intro t v w P hk hsz ht hP hm hf
    cases t with
    | node ka na sa la =>
    unfold ValIs at ht
    obtain ⟨ao, cap, rfl, a1, a2, a3, a4, a5, a6, a7⟩ := ht
    have hmb := hm.lt
    obtain ⟨W2, hW2⟩ : ∃ W2, W2 = (w.alloc (.cells #[.int .i64 ka, .int .i64 na, .string sa, .slice ao la.length cap] 47 (0, 0))).alloc Z4 := ⟨_, rfl⟩
    have hc2 : Chg [] w W2 := by rw [hW2]; exact ((Chg.refl [] w).alloc _).alloc _
    have hb2 : Below w.heap.size w W2 := by rw [hW2]; exact ((Below.refl _ _).alloc (Nat.le_refl _) _).alloc (by simp) _
    have hs2 : W2.heap.size = w.heap.size + 2 := by rw [hW2]; simp
    have z2V : W2.heap[w.heap.size]? = some (.cells #[.int .i64 ka, .int .i64 na, .string sa, .slice ao la.length cap] 47 (0, 0)) := by rw [hW2]; exact (heap_alloc_old _ _ (by simp)).trans (heap_alloc_new _ _)
    have z2R : W2.heap[w.heap.size + 1]? = some Z4 := by
      rw [hW2]
      have := heap_alloc_new (w.alloc (.cells #[.int .i64 ka, .int .i64 na, .string sa, .slice ao la.length cap] 47 (0, 0))) Z4
      simpa using this
    obtain ⟨v0, v1, v2, v3, v4⟩ := hdr4_cells z2V
    obtain ⟨r0, r1, r2, r3, r4⟩ := hdr4_cells z2R
    have hm2 := Lib.hid (hm.chg hc2 (by simp))
    have HW2 := Lib.hid hW2
    have B2 := Lib.hid hb2
    have S2 := Lib.hid hs2
    have ZV := Lib.hid z2V
    have ZR := Lib.hid z2R
    have HA7 := Lib.hid a7
    have HP := Lib.hid hP
    have HF := Lib.hid hf
    clear hb2 hs2 z2V z2R hc2 a7 hP hf hm
    cases hn : (if ka = 5 then f na else some na) with
    | none =>
      have h5 : ka = 5 := by by_cases h : ka = 5; exact h; rw [if_neg h] at hn; cases hn
      subst h5
      rw [if_pos rfl] at hn
      have HN := Lib.hid hn
      rw [move_none (by rw [if_pos rfl]; exact hn)]
      clear hn
      go_enter Tryz.func51, Tryz.ntmps51
      go_upto_if 14 with fail
      rw [← HW2.out]
      clear hW2
      go_wp2_with (at_lookup; refine wpList_lookup_imap rfl _ _ 71 rfl Tryz.underlying3 Tryz.underlying71 Tryz.underlying3 (zeroI _) hm2.out rfl na rfl a5 ?_; intro hwf; rw [HN.out])
      all_goals
        obtain ⟨z1, z2⟩ := four_ret (y0 := .int .i64 0) (y1 := .int .i64 0) (y2 := .string ⟨#[]⟩) (y3 := .slice none 0 0) ZR.out
        generalize ((((World.setCell _ _ _).setCell _ _).setCell _ _).setCell _ _) = wz at z1 z2 ⊢
        obtain ⟨y0, y1, y2, y3, _⟩ := hdr4_cells z1
        refine bodyPost_ret (v := .tuple #[.agg #[.int .i64 0, .int .i64 0, .string ⟨#[]⟩, .slice none 0 0], .bool false]) (by simp [results, Tryz.results51, go_sem, y0, y1, y2, y3]) rfl ?_
        exact zero_ret (B2.out.trans (z2.below B2.out.size (by simp)))
    | some n' =>
      have HMK := Lib.hid (move_kids (s := sa) (l := la) hn)
      have hwn : (Lit.int .i64 n').wf = true := by
        by_cases h : ka = 5
        · rw [if_pos h] at hn; exact HF.out _ _ hn
        · rw [if_neg h] at hn; cases hn; exact a5
      have HWN := Lib.hid hwn
      clear hwn
      go_enter Tryz.func51, Tryz.ntmps51
      go_upto_if 14 with fail
      rw [← HW2.out]
      clear hW2
      go_cut [6, 7] (fun _ _ wx => MvHead w W2 ka n' sa ao la.length cap wx)
      case first =>
        by_cases h5 : ka = 5
        · subst h5
          rw [if_pos rfl] at hn
          have HN := Lib.hid hn
          clear hn
          go_wp2_with (at_lookup; refine wpList_lookup_imap rfl _ _ 71 rfl Tryz.underlying3 Tryz.underlying71 Tryz.underlying3 (zeroI _) hm2.out rfl na rfl a5 ?_; intro hwf; rw [HN.out])
          go_meet
          exact ⟨(hdr4_set ZV.out).trans rfl, chg1_set W2 w.heap.size 1 _⟩
        · rw [if_neg h5] at hn
          cases hn
          have hq : (ka == 5) = false := by simpa using h5
          go_wp2
          go_meet
          exact ⟨ZV.out, Chg.refl _ _⟩
      case rest =>
        obtain ⟨zv, hc⟩ := hcut
        clear hn v0 v1 v2 v3 v4 r0 r1 r2 r3 r4
        have hbc : Below w.heap.size w wc := B2.out.trans (hc.below B2.out.size (by simp))
        have zr := (hc.block (w.heap.size + 1) (lt_of_block ZR.out) (by simp)).trans ZR.out
        obtain ⟨v0, v1, v2, v3, v4⟩ := hdr4_cells zv
        have hmw := hm2.out.chg hc (by simp; omega)
        have hll : la.length ≤ 100000 := by
          have := VT.szs_len la
          rw [VT.sz] at hsz
          omega
        have HCL := Lib.hid (kclone_one la ao cap wc P a1 a2 (by omega) a6 (HA7.out.keep (fun _ h => h) (fun p hp => hbc.cell (HP.out p.block hp))) (fun b hb => Nat.lt_of_lt_of_le (HP.out b hb) hbc.size))
        have HBC := Lib.hid hbc
        have ZR3 := Lib.hid zr
        have ZV3 := Lib.hid zv
        have HMW := Lib.hid hmw
        have S3 : Hid (w.heap.size + 2 ≤ wc.heap.size) := by have := hc.size; have := S2.out; show _ ≤ _; omega
        clear hbc zr zv hmw hc ZV ZR hm2
        go_upto_block 0 with (go_at_call 71; refine HCL.out.mono ?_; rintro e w5 ⟨so, cap5, rfl, hb5, hrow⟩; have zv5 := (hb5.block w.heap.size (lt_of_block ZV3.out)).trans ZV3.out; obtain ⟨x0, x1, x2, x3, x4⟩ := hdr4_cells zv5; have ZV5 := Lib.hid zv5; have B5 := Lib.hid hb5; have HROW := Lib.hid hrow; clear zv5 hb5 hrow)
        obtain ⟨w6, hw6⟩ : ∃ w6, w6 = w5.setCell ⟨w.heap.size, 3, none⟩ (.slice so la.length cap5) := ⟨_, rfl⟩
        rw [← hw6]
        have zv6 : w6.heap[w.heap.size]? = some (.cells #[.int .i64 ka, .int .i64 n', .string sa, .slice so la.length cap5] 47 (0, 0)) := by rw [hw6]; exact (hdr4_set ZV5.out).trans rfl
        have c56 : Chg [w.heap.size] w5 w6 := by rw [hw6]; exact chg1_set w5 w.heap.size 3 _
        have zr6 : w6.heap[w.heap.size + 1]? = some Z4 := (c56.block _ (Nat.lt_of_lt_of_le (lt_of_block ZR3.out) B5.out.size) (by simp)).trans ((B5.out.block _ (lt_of_block ZR3.out)).trans ZR3.out)
        have hb6 : Below w.heap.size w w6 := (HBC.out.trans (B5.out.mono HBC.out.size)).trans (c56.below (Nat.le_trans HBC.out.size B5.out.size) (by simp))
        have hm6 := ((HMW.out.chg (below_chg B5.out) (by simp))).chg c56 (by simp; omega)
        clear hw6 x0 x1 x2 x3 x4 v0 v1 v2 v3 v4
        obtain ⟨v0, v1, v2, v3, v4⟩ := hdr4_cells zv6
        obtain ⟨r0, r1, r2, r3, r4⟩ := hdr4_cells zr6
        have C56 := Lib.hid c56
        have ZV6 := Lib.hid zv6
        have ZR6 := Lib.hid zr6
        have HB6 := Lib.hid hb6
        have HM6 := Lib.hid hm6
        clear c56 zv6 zr6 hb6 hm6 ZV5 ZV3 ZR3 HMW HCL
        rcases HROW.out with ⟨rfl, rfl, rfl⟩ | ⟨g, rfl, hg, hrow⟩
        · go_wp2
          go_loopg [8, 11, 34] 0 (fun gk _ _ s34 wr => wr = w6 ∧ s34 = .int .i64 0)
          case atStart => exact ⟨rfl, rfl⟩
          case round =>
            obtain ⟨rfl, rfl⟩ := hrel
            go_wp2
            all_goals
              obtain ⟨z1, z2⟩ := four_ret (y0 := .int .i64 ka) (y1 := .int .i64 n') (y2 := .string sa) (y3 := .slice none 0 0) ZR6.out
              generalize ((((World.setCell _ _ _).setCell _ _).setCell _ _).setCell _ _) = wz at z1 z2 ⊢
              obtain ⟨y0, y1, y2, y3, _⟩ := hdr4_cells z1
              refine bodyPost_ret (v := .tuple #[.agg #[.int .i64 ka, .int .i64 n', .string sa, .slice none 0 0], .bool true]) (by simp [results, Tryz.results51, go_sem, y0, y1, y2, y3]) rfl ?_
              rw [HMK.out, VT.moves_nil]
              exact mv_end a4 HWN.out a3 (Nat.le_refl _) (by unfold maxLen; omega) (fun _ => rfl) (by unfold KidsAt; trivial) z2 HB6.out
        · have HG : Hid (w.heap.size + 2 ≤ g) := Nat.le_trans S3.out hg
          have hgl : g < w6.heap.size := Nat.lt_of_lt_of_le hrow.lt C56.out.size
          have HR6 : Hid (MRow w6 (fun b => P b ∨ w.heap.size + 2 ≤ b) g cap5 la) := (hrow.chg C56.out (by have := HG.out; simp; omega) (fun b hb => by have := HP.out b hb; simp; omega)).mono (fun b hb => .inl hb)
          have HL : Hid (MvLoop w w6 P f ka n' sa g cap5 la la.length (.int .i64 0) w6) := ⟨0, [], rfl, rfl, by omega, HR6.out, by simp, Chg.refl _ _⟩
          clear hrow hg
          go_wp2
          go_loopg [8, 11, 34] la.length (fun gk _ _ s34 wr => MvLoop w w6 P f ka n' sa g cap5 la gk s34 wr)
          case atStart => exact HL.out
          case round =>
            clear HL
            obtain ⟨i, done, rfl, hdl, hik, hrow, hmv, hcr⟩ := hrel
            have zv := (hcr.block w.heap.size (lt_of_block ZV6.out) (by have := HG.out; simp; omega)).trans ZV6.out
            have zr := (hcr.block (w.heap.size + 1) (lt_of_block ZR6.out) (by have := HG.out; simp; omega)).trans ZR6.out
            have hbr : Below w.heap.size w wr := HB6.out.trans (hcr.below HB6.out.size (by have := HG.out; simp; omega))
            have hmr := HM6.out.chg hcr (by have := HG.out; simp; omega)
            clear v0 v1 v2 v3 v4 r0 r1 r2 r3 r4
            obtain ⟨v0, v1, v2, v3, v4⟩ := hdr4_cells zv
            obtain ⟨r0, r1, r2, r3, r4⟩ := hdr4_cells zr
            have ZVR := Lib.hid zv
            have ZRR := Lib.hid zr
            have HBR := Lib.hid hbr
            have HMR := Lib.hid hmr
            have HROWR := Lib.hid hrow
            have HMV := Lib.hid hmv
            have HCR := Lib.hid hcr
            have HDL := Lib.hid hdl
            clear zv zr hbr hmr hmv hcr
            have g0 : (0 : Int) ≤ (i : Int) := by omega
            by_cases hlt : i < la.length
            · have g1 : (i : Int) < (la.length : Int) := by omega
              obtain ⟨tk, htk⟩ : ∃ u, la[i]? = some u := ⟨_, List.getElem?_eq_getElem hlt⟩
              have hdrop := VT.drop_kid htk
              have hget : (done ++ la.drop i)[i]? = some tk := by rw [List.getElem?_append_right (by omega), hdl, Nat.sub_self, hdrop]; rfl
              obtain ⟨aok, capk, p0, p1, p2, p3, hvk⟩ := hrow.get hget
              have HVK := Lib.hid hvk
              have hsk : tk.sz ≤ k := by
                have h5 : tk.sz < (VT.node ka na sa la).sz := VT.sz_kid (t := VT.node ka na sa la) htk
                omega
              have hsk2 : tk.sz ≤ 100000 := by
                have h5 : tk.sz < (VT.node ka na sa la).sz := VT.sz_kid (t := VT.node ka na sa la) htk
                omega
              have HI0 := fun o => ih tk (vval tk aok capk) (wr.alloc o) (fun b => (P b ∨ w.heap.size + 2 ≤ b) ∧ b < wr.heap.size ∧ b ≠ g) hsk hsk2 (hvk.below ((Below.refl _ _).alloc (Nat.le_refl _) _) (fun b hb => hb.2.1)) (fun b hb => by have := hb.2.1; simp; omega) (HMR.out.chg ((Chg.refl [] wr).alloc o) (by simp)) HF.out
              unfold vval at HI0
              have HI := Lib.hid HI0
              have HDR := Lib.hid hdrop
              clear hdl hrow hget hvk HI0 hdrop htk
              cases hr : tk.move f with
              | none =>
                rw [hr] at HI
                have HNO : Hid (VT.moves f la = none) := by show _ = _; rw [HMV.out, HDR.out, VT.moves_none _ hr]; rfl
                go_wp2_with (go_at_call 51; refine (HI.out _).mono ?_; rintro e w7 ⟨v7, rfl, hv7, hb7⟩; obtain ⟨ao7, cap7, rfl⟩ := hv7.form; have zr7 := (hb7.block (w.heap.size + 1) (by have := lt_of_block ZRR.out; simp; omega)).trans ((heap_alloc_old _ _ (lt_of_block ZRR.out)).trans ZRR.out); have zr8 := fun o => later_box zr7 o; obtain ⟨r0, r1, r2, r3, r4⟩ := hdr4_cells zr7; have ZR7 := Lib.hid zr7; have B7 := Lib.hid (HBR.out.trans (((Below.refl _ _).alloc (Nat.le_refl _) _).mono HBR.out.size |>.trans (hb7.mono (by have := HBR.out.size; simp; omega)))); clear hv7 hb7 zr7; unfold vval)
                all_goals
                  obtain ⟨z1, z2⟩ := four_ret (y0 := .int .i64 0) (y1 := .int .i64 0) (y2 := .string ⟨#[]⟩) (y3 := .slice none 0 0) ((heap_alloc_old w7 (.cells #[.int .i64 zeroT.kind, .int .i64 zeroT.num, .string zeroT.text, .slice ao7 zeroT.kids.length cap7] 47 (0, 0)) (lt_of_block ZR7.out)).trans ZR7.out)
                  generalize ((((World.setCell (World.alloc w7 _) _ _).setCell _ _).setCell _ _).setCell _ _) = wz at z1 z2 ⊢
                  obtain ⟨y0, y1, y2, y3, _⟩ := hdr4_cells z1
                  refine bodyPost_ret (v := .tuple #[.agg #[.int .i64 0, .int .i64 0, .string ⟨#[]⟩, .slice none 0 0], .bool false]) (by simp [results, Tryz.results51, go_sem, y0, y1, y2, y3]) rfl ?_
                  rw [HMK.out, HNO.out]
                  exact zero_ret ((B7.out.trans ((Below.refl _ _).alloc B7.out.size _)).trans (z2.below (by have := B7.out.size; simp; omega) (by simp)))
              | some tk' =>
                rw [hr] at HI
                have HYES : Hid (VT.moves f la = (VT.moves f (la.drop (i + 1))).map ((done ++ [tk']) ++ ·)) := by
                  show _ = _
                  rw [HMV.out, HDR.out, VT.moves_some _ hr]
                  cases VT.moves f (la.drop (i + 1)) <;> simp
                go_wp2_with (go_at_call 51; refine (HI.out _).mono ?_; rintro e w7 ⟨v7, rfl, hv7, hb7⟩; replace hv7 : ValIs w7 (fun b => ((((P b ∨ w.heap.size + 2 ≤ b) ∧ b < wr.heap.size ∧ b ≠ g) ∨ wr.heap.size + 1 ≤ b) ∧ b < w7.heap.size)) tk' v7 := (hv7.mono (fun b hb => ⟨by have := hb.1; simp at this; exact this, hb.2⟩)); obtain ⟨ao7, cap7, rfl⟩ := hv7.form; replace hb7 : Below wr.heap.size wr w7 := ((Below.refl _ _).alloc (Nat.le_refl _) _).trans (hb7.mono (by simp)); have zv7 := (hb7.block w.heap.size (lt_of_block ZVR.out)).trans ZVR.out; have zv8 := fun o => later_box zv7 o; have s0 := (fun o => (later_box zv7 o).1.2.2.2); have q0 := (fun o => new_ne' w7 ((hb7.cell (p := ⟨g, i * 4, none⟩) HROWR.out.lt).trans p0) o); have q1 := (fun o => new_ne' w7 ((hb7.cell (p := ⟨g, i * 4 + 1, none⟩) HROWR.out.lt).trans p1) o); have q2 := (fun o => new_ne' w7 ((hb7.cell (p := ⟨g, i * 4 + 2, none⟩) HROWR.out.lt).trans p2) o); have q3 := (fun o => new_ne' w7 ((hb7.cell (p := ⟨g, i * 4 + 3, none⟩) HROWR.out.lt).trans p3) o); have HR7 := Lib.hid (HROWR.out.chg (below_chg hb7) (by simp) (by simp)); have fz := (fun o j => ((HR7.out.chg ((Chg.refl [] w7).alloc o) (by simp) (by simp)).frozen j)); have ngx : w7.heap.size ≠ g := (by have := HR7.out.lt; omega); have V7 := Lib.hid hv7; have B7 := Lib.hid hb7; clear hv7 hb7 zv7 zv8; unfold vval)
                obtain ⟨m1, m2⟩ := MRow.set (i := i) (t := tk') (ao := ao7) (c := cap7) (HR7.out.chg ((Chg.refl [] w7).alloc (.cells #[.int .i64 tk'.kind, .int .i64 tk'.num, .string tk'.text, .slice ao7 tk'.kids.length cap7] 47 (0, 0))) (by simp) (by simp)) (by rw [List.length_append, List.length_drop]; have := HDL.out; omega)
                  ((V7.out.below ((Below.refl _ _).alloc (Nat.le_refl _) _) (fun b hb => hb.2)).mono (fun b hb => ⟨by rcases hb.1 with h | h; exact h.1; right; have := HROWR.out.lt; have := HG.out; omega, Nat.lt_of_lt_of_le hb.2 (by simp), by rcases hb.1 with h | h; exact h.2.2; have := HROWR.out.lt; omega⟩))
                rw [mv_list HDR.out HDL.out] at m1
                go_roundg (gk - 1)
                case measure => omega
                case rel => exact ⟨i + 1, done ++ [tk'], by go_num, by rw [List.length_append, List.length_singleton, HDL.out], by omega, by rw [List.append_assoc]; exact m1, HYES.out, (HCR.out.trans ((below_chg B7.out).alloc _) (by intro k hk; simp at hk)).trans m2 (by intro k hk; exact .inl hk)⟩
            · obtain rfl : i = la.length := by omega
              go_wp2
              all_goals
                obtain ⟨z1, z2⟩ := four_ret (y0 := .int .i64 ka) (y1 := .int .i64 n') (y2 := .string sa) (y3 := .slice (some ⟨g, 0, none⟩) la.length cap5) ZRR.out
                generalize ((((World.setCell _ _ _).setCell _ _).setCell _ _).setCell _ _) = wz at z1 z2 ⊢
                obtain ⟨y0, y1, y2, y3, _⟩ := hdr4_cells z1
                refine bodyPost_ret (v := .tuple #[.agg #[.int .i64 ka, .int .i64 n', .string sa, .slice (some ⟨g, 0, none⟩) la.length cap5], .bool true]) (by simp [results, Tryz.results51, go_sem, y0, y1, y2, y3]) rfl ?_
                rw [List.drop_length, List.append_nil] at hrow
                obtain ⟨m1, m2, m3⟩ := hrow.kids (Q' := fun b => (P b ∨ w.heap.size ≤ b) ∧ b < wr.heap.size ∧ b ≠ w.heap.size + 1) (fun b hb => ⟨hb.1.imp id (fun h => by omega), hb.2.1, by rcases hb.1 with h | h; have := HP.out b h; omega; omega⟩) ⟨.inr (by have := HG.out; omega), hrow.lt, by have := HG.out; omega⟩
                have hMM : VT.moves f la = some done := by rw [HMV.out, List.drop_length, VT.moves_nil]; simp
                rw [HMK.out, hMM]
                have := mv_end (P := P) a4 HWN.out a3 m1 m2 (fun e => by cases e) m3 z2 HBR.out
                rw [hdl] at this
                exact this
end Go.Proofs.YtenikoecnfbfoaaGreatDoor
/- Values in values, in plain words: their forms, their bytes, their texts' lengths. -/
namespace Go.Proofs.YtenikoecnfbfoaaGreatDoor
open Wr

namespace VT
mutual
theorem right_down : ∀ (t : VT) (d : Int), t.right (d + 1) = true → t.right d = true
  | node k n s l, d, h => by
    rw [right_node, Bool.and_eq_true, Bool.and_eq_true, decide_eq_true_eq] at h ⊢
    exact ⟨⟨by omega, h.1.2⟩, rights_down l (d + 1) h.2⟩
theorem rights_down : ∀ (l : List VT) (d : Int), rights l (d + 1) = true → rights l d = true
  | [], d, _ => rights_nil d
  | t :: l, d, h => by
    rw [rights_cons, Bool.and_eq_true] at h ⊢
    exact ⟨right_down t d h.1, rights_down l d h.2⟩
end
end VT
def tup (a b : VT) : VT := .node 4 0 ⟨#[]⟩ [a, b]
theorem tup_right (a b : VT) : (tup a b).right 1 = true ↔ a.right 2 = true ∧ b.right 2 = true := by
  unfold tup
  rw [VT.right_node, VT.rights_cons, VT.rights_cons, VT.rights_nil]
  have : fitsB 4 0 ⟨#[]⟩ [a, b].length = true := by show fitsB 4 0 ⟨#[]⟩ 2 = true; decide
  rw [this]
  simp
theorem tup_enc (a b : VT) : (tup a b).enc = [8, 4] ++ a.enc ++ b.enc := by
  unfold tup
  rw [VT.enc, VT.encs, VT.encs, VT.encs, topOf]
  simp [num, zig, var]
theorem tup_err {a b : VT} (h : encErr a ≠ 0 ∨ encErr b ≠ 0) : encErr (tup a b) ≠ 0 := by
  intro h0
  unfold encErr at h0
  split at h0
  · rename_i hr
    split at h0
    · rename_i hl
      rw [tup_enc, List.length_append, List.length_append] at hl
      obtain ⟨ha, hb⟩ := (tup_right a b).1 hr
      have ha1 := VT.right_down a 1 ha
      have hb1 := VT.right_down b 1 hb
      rcases h with h | h
      · exact h (by unfold encErr; rw [if_pos ha1, if_pos (by omega)])
      · exact h (by unfold encErr; rw [if_pos hb1, if_pos (by omega)])
    · omega
  · omega
theorem tup_refs (a b : VT) : (tup a b).refs = a.refs ++ b.refs := by
  unfold tup
  rw [VT.refs_node, VT.refsL_cons, VT.refsL_cons, VT.refsL_nil]
  simp
theorem tup_txt (F : Nat → List UInt8) (a b : VT) : (tup a b).txt F = 40 :: ((a.txt F ++ 44 :: b.txt F) ++ [41]) := by
  unfold tup
  rw [VT.txt_node, topTxt, VT.txts, VT.txts, VT.txts]
  simp [Lib.join, List.intercalate]
theorem quote_len (s : List UInt8) : (quoteB s).length ≤ 4 * s.length + 2 := by
  unfold quoteB
  have : ∀ l : List UInt8, (l.flatMap qb).length ≤ 4 * l.length := by
    intro l
    induction l with
    | nil => simp
    | cons c l ih =>
      rw [List.flatMap_cons, List.length_append, List.length_cons]
      have : (qb c).length ≤ 4 := by unfold qb; split <;> (try split) <;> simp
      omega
  have := this s
  simp only [List.length_cons, List.length_append, List.length_nil]
  omega
theorem hexPad_len : ∀ k x, (hexPad k x).length = k
  | 0, x => rfl
  | k + 1, x => by simp [hexPad, hexPad_len k]
theorem hex_len (x : Nat) (h : x < 18446744073709551616) : (flHex x).length = 16 := by rw [flHex_pad x h, hexPad_len]
theorem join_len (sep : List UInt8) (hs : sep.length = 1) : ∀ l : List (List UInt8), (Lib.join l sep).length ≤ (l.map (fun x => x.length + 1)).sum
  | [] => by simp [Lib.join]
  | [x] => by rw [Lib.join_one]; simp
  | x :: y :: l => by
    have ih := join_len sep hs (y :: l)
    have e : Lib.join (x :: y :: l) sep = x ++ (sep ++ Lib.join (y :: l) sep) := by simp [Lib.join, List.intercalate]
    rw [e, List.length_append, List.length_append, hs, List.map_cons, List.sum_cons]
    omega
theorem num_one (n : Int) : 1 ≤ (num n).length := by
  have := num_ne n
  cases h : num n with
  | nil => exact absurd h this
  | cons _ _ => simp
mutual
theorem txt_len : ∀ t : VT, (t.txt flHex).length + 1 ≤ 30 * t.enc.length
  | .node k n s l => by
    have hs := txts_len l
    have hk := num_one k
    have hn := num_one n
    have hm := num_one (s.data.toList.length : Int)
    have hl := num_one (l.length : Int)
    have h1 := wr_ge n
    have h2 := wr_le n
    have hi := Lib.itoa_length_le (wr n) (by omega) (by omega)
    have hq := quote_len s.data.toList
    have hj := join_len [44] rfl (VT.txts flHex l)
    rw [VT.txt_node, VT.enc, topTxt, topOf, List.length_append, List.length_append]
    by_cases c0 : k = 0
    · rw [if_pos c0, if_pos (.inl c0)]; omega
    · rw [if_neg c0]
      by_cases c1 : k = 1
      · rw [if_pos c1, if_neg (show ¬ (k = 0 ∨ k = 5) by omega), if_pos (.inl c1), hex_len _ (bitsOf_lt _)]; omega
      · rw [if_neg c1]
        by_cases c2 : k = 2
        · rw [if_pos c2, if_neg (show ¬ (k = 0 ∨ k = 5) by omega), if_pos (.inr c2)]
          unfold str
          rw [List.length_append]
          omega
        · rw [if_neg c2]
          by_cases c3 : k = 3
          · rw [if_pos c3, if_neg (show ¬ (k = 0 ∨ k = 5) by omega), if_neg (show ¬ (k = 1 ∨ k = 2) by omega), if_pos c3, List.length_append]
            split <;> simp only [List.length_cons, List.length_append, List.length_nil] <;> omega
          · rw [if_neg c3]
            by_cases c4 : k = 4
            · rw [if_pos c4, if_neg (show ¬ (k = 0 ∨ k = 5) by omega), if_neg (show ¬ (k = 1 ∨ k = 2) by omega), if_neg c3, if_pos c4]
              simp only [List.length_cons, List.length_append, List.length_nil]
              omega
            · rw [if_neg c4]
              by_cases c5 : k = 5
              · rw [if_pos c5, if_pos (.inr c5)]
                simp only [List.length_cons]
                omega
              · rw [if_neg c5]
                simp only [List.length_cons, List.length_nil]
                omega
theorem txts_len : ∀ l : List VT, ((VT.txts flHex l).map (fun x => x.length + 1)).sum ≤ 30 * (VT.encs l).length
  | [] => by rw [VT.txts]; simp
  | t :: l => by
    have := txt_len t
    have := txts_len l
    rw [VT.txts, VT.encs, List.map_cons, List.sum_cons, List.length_append]
    omega
end
theorem txt_small {t : VT} (h : t.enc.length ≤ 16384) : (t.txt flHex).length ≤ 1000000 := by
  have := txt_len t
  omega
end Go.Proofs.YtenikoecnfbfoaaGreatDoor
