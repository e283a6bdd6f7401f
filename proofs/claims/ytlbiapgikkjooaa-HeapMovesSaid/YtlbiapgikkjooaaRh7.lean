/- The reference's heap: add, Make, Raw. -/
import Derived.Test.YtlbiapgikkjooaaRh6
import Derived.Test.YtlbiapgikkjooaaLast
import Derived.Deep.DrawnRows
namespace Go.Proofs.Ytlbiapgikkjooaa
open Go.RowKit Go.Maps Hp
set_option linter.unusedSimpArgs false
set_option linter.unusedSectionVars false
set_option linter.unusedVariables false
attribute [local go_sem ↓] Go.wp_at_zero Go.wp_at_succ

/-- The document's heap beside the reference's rows. -/
structure Tied (A : AH) (L : List (Ob × Value)) (P : List (Int × Ref)) : Prop where
  objs : A.objs = L.map (·.1)
  pins : ∀ k, A.pins k = pinOf P k
  nd : (P.map (·.1)).Nodup
  wf : A.Wf
  bL : L.length ≤ 1000000
  bS : A.stack.length ≤ 1000000
  bP : P.length ≤ 1000000
  bO : ∀ o ∈ L, o.1.fields.length ≤ 1000000 ∧ o.1.bytes.length ≤ 1000000
theorem Gives.upto {w : World} {e : TypeId} {sz n cap : Nat} {ao : Option Addr} {xs : List Value} (h : RowZ w e sz (.slice ao n cap) n xs) (m : Nat) (hm : m ≤ n) (c : Nat) : Gives w (.slice ao m c) m (xs.take (m * sz)) ∨ (m = 0 ∧ ao = none) := by
  have hl := h.1
  obtain ⟨ao', cap', e', h1, h2, h3, h4⟩ := h.form
  cases e'
  cases ao with
  | none => have := (h3 rfl).1; exact .inr ⟨by omega, rfl⟩
  | some a =>
    obtain ⟨g, rfl, _⟩ := h4 a rfl
    refine .inl (.inr ⟨_, c, rfl, fun j u hj => ?_⟩)
    have hj1 := (List.getElem?_eq_some_iff.1 hj).1
    rw [List.length_take] at hj1
    rw [List.getElem?_take_of_lt (by omega)] at hj
    rw [Go.WideShapes.add_plain, Nat.zero_add, h.cellAt _ (by omega)]
    exact hj
theorem bcell {W w1 : World} (hb : Below W.heap.size W w1) : (∀ b o, b < W.heap.size → w1.cell? ⟨b, o, none⟩ = W.cell? ⟨b, o, none⟩) ∧ (∀ b o, b < W.heap.size → w1.frozen? ⟨b, o, none⟩ = W.frozen? ⟨b, o, none⟩) :=
  ⟨fun b o h => hb.cell (p := ⟨b, o, none⟩) h, fun b o h => hb.frozen (p := ⟨b, o, none⟩) h⟩
theorem RefIs.appL {w w' : World} {q lim : Nat} {vl vs vp : Value} {L : List (Ob × Value)} {S : List Ref} {P : List (Int × Ref)} {vl' : Value} {x : Ob × Value} (h : RefIs w q lim vl vs vp L S P) (hr : RowZ w' 82 4 vl' (L ++ [x]).length (ocells (L ++ [x]))) (ha : Appended w vl w' vl')
    (hx : RowZ w 27 2 x.2 x.1.fields.length (rcells x.1.fields)) (hxn : ∀ k, x.2.ownBlock = some k → k ∉ rfoot q vl vs vp L) :
    RefIs (w'.setCell ⟨q, 1, none⟩ vl') q lim vl' vs vp (L ++ [x]) S P ∧ Chg (rfoot q vl vs vp L) w (w'.setCell ⟨q, 1, none⟩ vl') := by
  have hc := ha.chg
  have hk : ∀ {k : Nat}, k ∈ vl.ownBlock.toList → vl.ownBlock = some k := fun h => by simpa using h
  have hv : ∀ k, vl'.ownBlock = some k → k ≠ q ∧ vs.ownBlock ≠ some k ∧ vp.ownBlock ≠ some k ∧ (∀ x ∈ L, x.2.ownBlock ≠ some k) ∧ x.2.ownBlock ≠ some k := fun k hk => by
    rcases ha.out hk with e | e
    · exact ⟨fun e' => h.n1 (e' ▸ e), (h.n4 k e).1, (h.n4 k e).2, fun x hx e' => (h.n6 x hx k e').2.1 e, fun e' => hxn k e' (mem_rfoot.2 (.inr (.inl e)))⟩
    · have e1 := h.foot_new e
      rw [mem_rfoot] at e1
      refine ⟨fun e' => e1 (.inl e'), fun e' => e1 (.inr (.inr (.inl e'))), fun e' => e1 (.inr (.inr (.inr (.inl e')))), fun x hx e' => e1 (.inr (.inr (.inr (.inr ⟨x, hx, e'⟩)))), fun e' => ?_⟩
      have := hx.lt e'
      omega
  have hxq : ∀ k, x.2.ownBlock = some k → k ≠ q ∧ vl.ownBlock ≠ some k ∧ vs.ownBlock ≠ some k ∧ vp.ownBlock ≠ some k := fun k hk => by
    have e := hxn k hk
    rw [mem_rfoot] at e
    exact ⟨fun e' => e (.inl e'), fun e' => e (.inr (.inl e')), fun e' => e (.inr (.inr (.inl e'))), fun e' => e (.inr (.inr (.inr (.inl e'))))⟩
  have hd : w'.heap[q]? = some (.cells #[.int .i64 lim, vl, vs, vp] 60 (0, 0)) := (hc.block q (lt_of_block h.hdr) (fun e => h.n1 (hk e))).trans h.hdr
  have hs : Chg [q] w' (w'.setCell ⟨q, 1, none⟩ vl') := chg_set w' q 1 vl'
  refine ⟨⟨hdr_set hd, hr.chg hs (fun k hk' e => by simp at e; exact (hv k hk').1 e), (h.rs.chg hc (fun k hk' e => (h.n4 k (hk e)).1 hk')).chg hs (fun k hk' e => by simp at e; exact h.n2 (e ▸ hk')), (h.rp.chg hc (fun k hk' e => (h.n4 k (hk e)).2 hk')).chg hs (fun k hk' e => by simp at e; exact h.n3 (e ▸ hk')),
    fun y hy => ?_, fun e => (hv q e).1 rfl, h.n2, h.n3, fun k hk' => ⟨(hv k hk').2.1, (hv k hk').2.2.1⟩, h.n5, fun y hy k hk' => ?_⟩, ?_⟩
  · rcases List.mem_append.1 hy with hy | hy
    · exact ((h.rf y hy).chg hc (fun k hk' e => (h.n6 y hy k hk').2.1 (hk e))).chg hs (fun k hk' e => by simp at e; exact (h.n6 y hy k hk').1 e)
    · rw [List.mem_singleton] at hy
      subst hy
      exact (hx.chg hc (fun k hk' e => (hxq k hk').2.1 (hk e))).chg hs (fun k hk' e => by simp at e; exact (hxq k hk').1 e)
  · rcases List.mem_append.1 hy with hy | hy
    · exact ⟨(h.n6 y hy k hk').1, fun e => (hv k e).2.2.2.1 y hy hk', (h.n6 y hy k hk').2.2.1, (h.n6 y hy k hk').2.2.2⟩
    · rw [List.mem_singleton] at hy
      subst hy
      exact ⟨(hxq k hk').1, fun e => (hv k e).2.2.2.2 hk', (hxq k hk').2.2.1, (hxq k hk').2.2.2⟩
  · exact (hc.mono (F' := rfoot q vl vs vp L) (fun k e => mem_rfoot.2 (.inr (.inl (hk e))))).setCell (p := ⟨q, 1, none⟩) (.inl (mem_rfoot.2 (.inl rfl))) _
theorem four_new {w : World} {a b c d : Value} {t : TypeId} : ∀ j u, [a, b, c, d][j]? = some u → (w.alloc (.cells #[a, b, c, d] t)).cell? ((⟨w.heap.size, 0, none⟩ : Addr).add j) = some u :=
  World.news_of_block (cs := #[a, b, c, d]) (fr := (0, 0)) (heap_alloc_new w _)
theorem two_cells {W : World} {b : Nat} {x y : Value} (h0 : W.cell? ⟨b, 0, none⟩ = some x) (h1 : W.cell? ⟨b, 1, none⟩ = some y) : ∀ (j : Nat) u, [x, y][j]? = some u → W.cell? ((⟨b, 0, none⟩ : Addr).add j) = some u := fun j u hj => by
  rw [Go.WideShapes.add_plain, Nat.zero_add]
  match j, hj with
  | 0, hj => cases hj; exact h0
  | 1, hj => cases hj; exact h1
theorem new_row1 (W : World) (B : Nat) (hB : W.heap.size = B) : RowZ (W.alloc (.cells #[] 27)) 27 2 (.slice (some ⟨B, 0, none⟩) 0 0) 0 [] := by
  subst hB
  exact ⟨rfl, .inr ⟨W.heap.size, 0, #[], rfl, Nat.zero_le _, heap_alloc_new W _, Nat.le_refl _, by unfold maxLen; omega, rfl, rfl⟩⟩
theorem chg_drew {F : List Nat} {a b : World} (h : Chg F a b) : Chg F a b.drew := h.drewN 1
theorem new_rowA (W : World) : RowZ (W.alloc (.cells #[] 27)).drew 27 2 (.slice (some ⟨W.heap.size, 0, none⟩) 0 0) 0 [] :=
  (new_row1 W _ rfl).chg (chg_drew (Chg.refl [] _)) (by simp)
theorem new_rowB (W : World) (o : Obj) : RowZ ((W.alloc (.cells #[] 27)).alloc o).drew 27 2 (.slice (some ⟨W.heap.size, 0, none⟩) 0 0) 0 [] :=
  (new_row1 W _ rfl).chg (chg_drew ((Chg.refl [] _).alloc o)) (by simp)
theorem new_rowC (W : World) (o : Obj) : RowZ ((W.alloc o).alloc (.cells #[] 27)).drew 27 2 (.slice (some ⟨W.heap.size + 1, 0, none⟩) 0 0) 0 [] :=
  (new_row1 (W.alloc o) _ (by simp)).chg (chg_drew (Chg.refl [] _)) (by simp)
theorem step_app2 {w : World} {ops : Array Oper} {o : Oper} {a : Act} {K : Act → World → Prop} {Q : Exit → Act → World → Prop} {E : Prop} (hgd : o.guard = none) (s x : Operand)
    (ho : o.op = .call { callee := .builtin .append, args := #[s, x], argTypes := #[57, 57] }) {ao : Option Addr} {cap n b : Nat} {xs : List Value} {x0 x1 : Value} (hs : a.eval s = .slice ao n cap) (hr : RowZ w 27 2 (.slice ao n cap) n xs)
    (hxv : a.eval x = .slice (some ⟨b, 0, none⟩) 1 1) (h0 : w.cell? ⟨b, 0, none⟩ = some x0) (h1 : w.cell? ⟨b, 1, none⟩ = some x1) (o0 : x0.oneCell' = true) (o1 : x1.oneCell' = true) (h63 : n + 1 ≤ 1099511627776)
    (h : ∀ ao' cap' w', RowZ w' 27 2 (.slice ao' (n + 1) cap') (n + 1) (xs ++ [x0, x1]) → Appended w (.slice ao n cap) w' (.slice ao' (n + 1) cap') → K (a.put o.dst (.slice ao' (n + 1) cap')) w') : if Region.wanted o (yielded ops a.tmps) = true then Oper.wp Try.prog o a w K Q else E :=
  step_apps hgd s x 57 ho Try.underlying57 infoRef rfl (by omega) hs hr hxv (.inr ⟨_, 1, rfl, two_cells h0 h1⟩) rfl (fun u hu => by
    rw [List.mem_cons, List.mem_singleton] at hu
    rcases hu with rfl | rfl
    · exact o0
    · exact o1) h63 (by omega) h
section
variable {w : World} {q lim : Nat} {vl vs vp v : Value} {L : List (Ob × Value)} {P : List (Int × Ref)} {A : AH}
theorem refLive_tied (h : RefIs w q lim vl vs vp L A.stack P) (t : Tied A L P) : Calls Try.prog 42 #[.pointer (some ⟨q, 0, none⟩)] w fun e w' => e = .returned (.int .i64 (A.live : Int)) ∧ Below w.heap.size w w' :=
  refLive_any A h t.objs rfl t.pins t.nd t.wf t.bL t.bS t.bP t.bO
theorem live_bound (t : Tied A L P) : A.live ≤ 4000000000000 := by
  have h1 : A.live ≤ total A (List.range A.objs.length) := by
    unfold AH.live total sizeAt
    generalize List.range A.objs.length = r
    induction r with
    | nil => simp
    | cons i r ih =>
      rw [List.map_cons, List.map_cons, List.sum_cons, List.sum_cons]
      refine Nat.add_le_add ?_ ih
      split
      · exact Nat.le_refl _
      · exact Nat.zero_le _
  have h2 := total_bound (A := A) (c := 1000001) (List.range A.objs.length) (fun i hi => by
    unfold sizeAt
    have hl : i < A.objs.length := List.mem_range.1 hi
    rw [List.getElem?_eq_getElem hl]
    have hm : A.objs[i] ∈ L.map (·.1) := t.objs ▸ List.getElem_mem hl
    obtain ⟨o', ho', e'⟩ := List.mem_map.1 hm
    have := t.bO o' ho'
    simp only [Option.map_some, Option.getD_some, ← e']
    unfold Ob.size
    split <;> omega)
  rw [List.length_range] at h2
  have e0 : A.objs.length ≤ 1000000 := by rw [t.objs, List.length_map]; exact t.bL
  have h4 : A.objs.length * 1000001 ≤ 1000000 * 1000001 := Nat.mul_le_mul e0 (Nat.le_refl _)
  omega
set_option maxRecDepth 100000 in
set_option maxHeartbeats 1600000 in
theorem refAdd_full (h : RefIs w q lim vl vs vp L A.stack P) (t : Tied A L P) (o : Ob) (ao : Option Addr) (cap : Nat) (ho : o.fields.length ≤ 1000000 ∧ o.bytes.length ≤ 1000000) (hw : (o.raw = true → o.fields = []) ∧ (o.raw = false → o.bytes = [])) (n : Int) (hlim : lim ≤ 4194304) (hfull : ¬ A.live + o.size ≤ lim) :
    Calls Try.prog 52 #[.pointer (some ⟨q, 0, none⟩), .agg #[.int .i64 o.kind, .slice ao o.fields.length cap, .bool o.raw, .string ⟨o.bytes.toArray⟩], .int .i64 n] w fun e w' => e = .returned (.int .i64 14) ∧ Below w.heap.size w w' := by
  have hlb := live_bound t
  have LV : Hid (∀ W, Below w.heap.size w W → Calls Try.prog 42 #[.pointer (some ⟨q, 0, none⟩)] W fun e w' => e = .returned (.int .i64 (A.live : Int)) ∧ Below W.heap.size W w') := fun W hW => refLive_tied (h.later hW) t
  have ND : Hid (∀ W, Calls Try.prog 53 #[.agg #[.int .i64 o.kind, .slice ao o.fields.length cap, .bool o.raw, .string ⟨o.bytes.toArray⟩]] W fun e w' => e = .returned (.int .i64 (o.size : Int)) ∧ Below W.heap.size W w') := fun W => refNeed_any o _ ao cap rfl ho.1 ho.2 hw W
  have HH := Lib.hid h
  have c0 : ∀ o, (w.alloc o).cell? ⟨q, 0, none⟩ = some (.int .i64 lim) := fun o => (h.alloc o).c0
  have hz : o.size ≤ 1000001 := by unfold Ob.size; split <;> omega
  have l0 : (0 : Int) ≤ (A.live : Int) := by omega
  have l1 : (A.live : Int) ≤ 4000000000000 := by omega
  have z0 : (0 : Int) ≤ (o.size : Int) := by omega
  have z1 : (o.size : Int) ≤ 1000001 := by omega
  have hsum : IntKind.i64.wrap ((A.live : Int) + (o.size : Int)) = (A.live : Int) + (o.size : Int) := IntWalk.i64_in _ (by omega)
  have hgt : (lim : Int) < (A.live : Int) + (o.size : Int) := by omega
  have hq0 : q < w.heap.size := lt_of_block h.hdr
  have hq1 : q < w.heap.size + 1 := by omega
  clear h hlb hfull hlim ho hw hz
  go_enter Try.func52, Try.ntmps52
  go_wp2
  go_region_held3 (fun w' => w'.cell? ⟨q, 0, none⟩ = some (.int .i64 lim) ∧ w'.cell? ⟨w.heap.size, 0, none⟩ = some (.int .i64 o.kind) ∧ w'.cell? ⟨w.heap.size, 1, none⟩ = some (.slice ao o.fields.length cap) ∧ w'.cell? ⟨w.heap.size, 2, none⟩ = some (.bool o.raw) ∧ w'.cell? ⟨w.heap.size, 3, none⟩ = some (.string ⟨o.bytes.toArray⟩)) (go_keep)
    (first
      | (go_at_call 42; refine (LV.out _ (below_drewN ((Below.refl _ _).alloc (Nat.le_refl _) _) _)).mono ?_; rintro e w5 ⟨rfl, hb5⟩; have HB5 := Lib.hid hb5; obtain ⟨hc5, hf5⟩ := bcell hb5; have s5 : w.heap.size < w5.heap.size := (by have := hb5.size; simp at this; omega); have q5 : q < w5.heap.size := (by omega); clear hb5)
      | (go_at_call 53; refine (ND.out _).mono ?_; rintro e w6 ⟨rfl, hb6⟩; have HB6 := Lib.hid hb6; obtain ⟨hc6, hf6⟩ := bcell hb6; clear hb6))
  go_wp2
  go_ret
  exact ⟨rfl, (below_drewN ((Below.refl _ _).alloc (Nat.le_refl _) _) _).trans ((HB5.out.trans (HB6.out.mono (by have := HB5.out.size; simp at this ⊢; omega))).mono (by simp))⟩
/-- What 'add' leaves: one object more, the stack cut and the object on it. -/
def AddPost (w : World) (q lim : Nat) (vl vs vp : Value) (L : List (Ob × Value)) (S : List Ref) (P : List (Int × Ref)) (o : Ob) (v : Value) (n : Nat) (e : Ending) (w' : World) : Prop :=
  e = .returned (.int .i64 0) ∧ ∃ vl' vs', RefIs w' q lim vl' vs' vp (L ++ [(o, v)]) (S.take (S.length - n) ++ [⟨true, L.length⟩]) P ∧ Chg (rfoot q vl vs vp L) w w' ∧ (∀ k, vl'.ownBlock = some k → vl.ownBlock = some k ∨ w.heap.size ≤ k) ∧ ∀ k, vs'.ownBlock = some k → w.heap.size ≤ k
set_option maxRecDepth 100000 in
set_option maxHeartbeats 1600000 in
theorem refAdd_room (h : RefIs w q lim vl vs vp L A.stack P) (t : Tied A L P) (o : Ob) (ao : Option Addr) (cap : Nat) (ho : o.fields.length ≤ 1000000 ∧ o.bytes.length ≤ 1000000) (hw : (o.raw = true → o.fields = []) ∧ (o.raw = false → o.bytes = [])) (n : Nat) (hn : n ≤ A.stack.length) (hlim : lim ≤ 4194304) (hroom : A.live + o.size ≤ lim)
    (hr : RowZ w 27 2 (.slice ao o.fields.length cap) o.fields.length (rcells o.fields)) (hv : ∀ k, (Value.slice ao o.fields.length cap).ownBlock = some k → k ∉ rfoot q vl vs vp L) :
    Calls Try.prog 52 #[.pointer (some ⟨q, 0, none⟩), .agg #[.int .i64 o.kind, .slice ao o.fields.length cap, .bool o.raw, .string ⟨o.bytes.toArray⟩], .int .i64 n] w (AddPost w q lim vl vs vp L A.stack P o (.slice ao o.fields.length cap) n) := by
  have hlb := live_bound t
  have LV : Hid (∀ W, Below w.heap.size w W → Calls Try.prog 42 #[.pointer (some ⟨q, 0, none⟩)] W fun e w' => e = .returned (.int .i64 (A.live : Int)) ∧ Below W.heap.size W w') := fun W hW => refLive_tied (h.later hW) t
  have ND : Hid (∀ W, Calls Try.prog 53 #[.agg #[.int .i64 o.kind, .slice ao o.fields.length cap, .bool o.raw, .string ⟨o.bytes.toArray⟩]] W fun e w' => e = .returned (.int .i64 (o.size : Int)) ∧ Below W.heap.size W w') := fun W => refNeed_any o _ ao cap rfl ho.1 ho.2 hw W
  have HH := Lib.hid h
  have HT := Lib.hid t
  have HRV := Lib.hid hr
  have HVV := Lib.hid hv
  have c0 : ∀ o, (w.alloc o).cell? ⟨q, 0, none⟩ = some (.int .i64 lim) := fun o => (h.alloc o).c0
  have hz : o.size ≤ 1000001 := by unfold Ob.size; split <;> omega
  have l0 : (0 : Int) ≤ (A.live : Int) := by omega
  have l1 : (A.live : Int) ≤ 4000000000000 := by omega
  have z0 : (0 : Int) ≤ (o.size : Int) := by omega
  have z1 : (o.size : Int) ≤ 1000001 := by omega
  have hsum : IntKind.i64.wrap ((A.live : Int) + (o.size : Int)) = (A.live : Int) + (o.size : Int) := IntWalk.i64_in _ (by omega)
  have hgt : ¬ (lim : Int) < (A.live : Int) + (o.size : Int) := by omega
  have hq0 : q < w.heap.size := lt_of_block h.hdr
  have hq1 : q < w.heap.size + 1 := by omega
  have HN := Lib.hid hn
  clear h t hlb hroom hlim ho hw hz hr hv hn
  go_enter Try.func52, Try.ntmps52
  go_wp2
  go_region_held3 (fun w' => w'.cell? ⟨q, 0, none⟩ = some (.int .i64 lim) ∧ w'.cell? ⟨w.heap.size, 0, none⟩ = some (.int .i64 o.kind) ∧ w'.cell? ⟨w.heap.size, 1, none⟩ = some (.slice ao o.fields.length cap) ∧ w'.cell? ⟨w.heap.size, 2, none⟩ = some (.bool o.raw) ∧ w'.cell? ⟨w.heap.size, 3, none⟩ = some (.string ⟨o.bytes.toArray⟩)) (go_keep)
    (first
      | (go_at_call 42; refine (LV.out _ (below_drewN ((Below.refl _ _).alloc (Nat.le_refl _) _) _)).mono ?_; rintro e w5 ⟨rfl, hb5⟩; have HB5 := Lib.hid hb5; obtain ⟨hc5, hf5⟩ := bcell hb5; have s5 : w.heap.size < w5.heap.size := (by have := hb5.size; simp at this; omega); have q5 : q < w5.heap.size := (by omega); clear hb5)
      | (go_at_call 53; refine (ND.out _).mono ?_; rintro e w6 ⟨rfl, hb6⟩; have HB6 := Lib.hid hb6; obtain ⟨hc6, hf6⟩ := bcell hb6; clear hb6))
  have HB : Hid (Below (w.heap.size + 1) (w.alloc (.cells #[.int .i64 o.kind, .slice ao o.fields.length cap, .bool o.raw, .string ⟨o.bytes.toArray⟩] 82)) w6) := by
    have h1 := HB5.out.trans (HB6.out.mono (by have := HB5.out.size; simp at this ⊢; omega))
    exact (below_drewN (Below.refl _ _) 1).trans (h1.mono (by simp))
  have HW : Hid (RefIs w6 q lim vl vs vp L A.stack P) := HH.out.later ((((Below.refl _ _).alloc (Nat.le_refl _) _)).trans (HB.out.mono (by omega)))
  have hq6 : q < w6.heap.size := HW.out.lt q (mem_rfoot.2 (.inl rfl))
  have b0 : w6.cell? ⟨w.heap.size, 0, none⟩ = some (.int .i64 o.kind) := by rw [HB.out.cell (p := ⟨_, _, none⟩) (by simp)]; simp
  have b1 : w6.cell? ⟨w.heap.size, 1, none⟩ = some (.slice ao o.fields.length cap) := by rw [HB.out.cell (p := ⟨_, _, none⟩) (by simp)]; simp
  have b2 : w6.cell? ⟨w.heap.size, 2, none⟩ = some (.bool o.raw) := by rw [HB.out.cell (p := ⟨_, _, none⟩) (by simp)]; simp
  have b3 : w6.cell? ⟨w.heap.size, 3, none⟩ = some (.string ⟨o.bytes.toArray⟩) := by rw [HB.out.cell (p := ⟨_, _, none⟩) (by simp)]; simp
  clear hc5 hf5 hc6 hf6 s5 q5 hq1 c0
  obtain ⟨aS, cS, hvs, s1, s2, _⟩ := HW.out.rs.form
  obtain ⟨al, cl, hvl, _⟩ := HW.out.rl.form
  have c2 := HW.out.c2
  have c1 := HW.out.c1
  have f2 := HW.out.fr 2
  have f1 := HW.out.fr 1
  rw [hvs] at c2
  rw [hvl] at c1
  obtain ⟨s, hs⟩ : ∃ s, s = A.stack.length := ⟨_, rfl⟩
  obtain ⟨l, hl⟩ : ∃ s, s = L.length := ⟨_, rfl⟩
  rw [← hs] at c2
  rw [← hl] at c1
  have n1 : (n : Int) ≤ (s : Int) := by have := HN.out; omega
  have n0 : (0 : Int) ≤ (n : Int) := by omega
  have n2 : (s : Int) ≤ 1000000 := by have := HT.out.bS; omega
  have n3 : (l : Int) ≤ 1000000 := by have := HT.out.bL; omega
  have n4 : (s : Int) - (n : Int) ≤ (cS : Int) := by omega
  have n5 : IntKind.i64.wrap ((s : Int) - (n : Int)) = (s : Int) - (n : Int) := IntWalk.i64_in _ (by omega)
  have n6 : (0 : Int) ≤ (s : Int) - (n : Int) := by omega
  have n7 : ((s : Int) - (n : Int)).toNat = s - n := by omega
  have HVS := Lib.hid hvs
  have HVL := Lib.hid hvl
  have HS := Lib.hid hs
  have HL := Lib.hid hl
  clear hvs hvl hs hl s1 s2 hsum
  go_wp2
  have HGV : Hid (∀ W, Chg [] w6 W → Gives W (.slice aS (s - n) cS) (s - n) (rcells (A.stack.take (s - n)))) := fun W hW => by
    have hr := HW.out.rs.chg hW (by simp)
    rw [HVS.out, ← HS.out] at hr
    have h1 := Gives.upto hr (s - n) (by omega) cS
    rw [rcells_take] at h1
    rcases h1 with h1 | ⟨h1, h2⟩
    · exact h1
    · subst h2
      obtain ⟨ao', cap', e', _, _, h3, _⟩ := hr.form
      cases e'
      have := h3 rfl
      refine .inl ⟨by rw [h1, this.2], h1, ?_⟩
      rw [h1]
      rfl
  have m1 : w6.heap.size ≠ q := by omega
  have m2 : w6.heap.size + 1 ≠ q := by omega
  have hq7 : q < w6.heap.size + 1 := by omega
  have hq8 : q < w6.heap.size + 2 := by omega
  have HK : Hid (∀ W v w' v', Chg [] w6 W → (∀ k, v.ownBlock = some k → w6.heap.size ≤ k) → Appended W v w' v' → w'.cell? ⟨q, 2, none⟩ = some (.slice aS s cS) ∧ w'.cell? ⟨q, 1, none⟩ = some (.slice al l cl) ∧ w'.frozen? ⟨q, 2, none⟩ = false ∧ Chg [] w6 w' ∧ (∀ k, v'.ownBlock = some k → w6.heap.size ≤ k) ∧ (∀ b o, b < W.heap.size → v.ownBlock ≠ some b → w'.cell? ⟨b, o, none⟩ = W.cell? ⟨b, o, none⟩)) := fun W v w' v' hW hv ha => by
    have hc := ha.chg
    have all : Chg [] w6 w' := hW.trans hc (fun k hk => .inr (hv k (by simpa using hk)))
    refine ⟨(all.cell (p := ⟨q, 2, none⟩) hq6 (by simp)).trans c2, (all.cell (p := ⟨q, 1, none⟩) hq6 (by simp)).trans c1, (all.frozen (p := ⟨q, 2, none⟩) hq6 (by simp)).trans f2, all, fun k hk => ?_, fun b o hb hne => hc.cell (p := ⟨b, o, none⟩) hb (by simpa using hne)⟩
    rcases ha.out hk with e | e
    · exact hv k e
    · subst e; exact hW.size
  have c2a : ∀ o, (w6.alloc o).cell? ⟨q, 2, none⟩ = some (.slice aS s cS) := fun o => by rw [World.cell?_alloc_some _ _ _ (by rw [c2]; rfl)]; exact c2
  have c1a : ∀ o, (w6.alloc o).cell? ⟨q, 1, none⟩ = some (.slice al l cl) := fun o => by rw [World.cell?_alloc_some _ _ _ (by rw [c1]; rfl)]; exact c1
  have c2b : ∀ o o', ((w6.alloc o).alloc o').cell? ⟨q, 2, none⟩ = some (.slice aS s cS) := fun o o' => by rw [World.cell?_alloc_some _ _ _ (by rw [c2a]; rfl)]; exact c2a _
  have c1b : ∀ o o', ((w6.alloc o).alloc o').cell? ⟨q, 1, none⟩ = some (.slice al l cl) := fun o o' => by rw [World.cell?_alloc_some _ _ _ (by rw [c1a]; rfl)]; exact c1a _
  refine wp_region_lastL (S := (fun w' => w'.cell? ⟨q, 2, none⟩ = some (.slice aS s cS) ∧ w'.cell? ⟨q, 1, none⟩ = some (.slice al l cl))) (by kernel_rfl) (by simp only [butLast]; rfl) (by simp only [lastOf]; rfl) (by kernel_rfl) (by kernel_rfl) ?_ (fun hHeld => ?_)
  focus go_keep
  try simp only [List.size_toArray, List.length_cons, List.length_nil]
  refine wpAnyH_take (i := 0) (v := ?_) rfl (by kernel_rfl) (by kernel_rfl) (by kernel_rfl) (fun _ _ _ h => h) (Or.inl ⟨by rfl, ?_⟩) (by assumption) ?_
  rotate_left
  focus (intro w hSw; (try dsimp only at hSw); go_simp; try with_reducible rfl)
  try simp only [Act.put, List.setIfInBounds_toArray, List.set_cons_zero, List.set_cons_succ, Nat.zero_add]
  refine wpAnyH_take (i := 2) (v := ?_) rfl (by kernel_rfl) (by kernel_rfl) (by kernel_rfl) (fun _ _ _ h => h) (Or.inl ⟨by rfl, ?_⟩) (by assumption) ?_
  rotate_left
  focus (intro w hSw; (try dsimp only at hSw); go_simp; try with_reducible rfl)
  try simp only [Act.put, List.setIfInBounds_toArray, List.set_cons_zero, List.set_cons_succ, Nat.zero_add]
  refine wpAnyH_take (i := 3) (v := ?_) rfl (by kernel_rfl) (by kernel_rfl) (by kernel_rfl) (fun _ _ _ h => h) (Or.inl ⟨by rfl, ?_⟩) (by assumption) ?_
  rotate_left
  focus (intro w hSw; (try dsimp only at hSw); go_simp; try with_reducible rfl)
  try simp only [Act.put, List.setIfInBounds_toArray, List.set_cons_zero, List.set_cons_succ, Nat.zero_add]
  refine wpAnyH_take (i := 4) (v := ?_) rfl (by kernel_rfl) (by kernel_rfl) (by kernel_rfl) (fun _ _ _ h => h) (Or.inl ⟨by rfl, ?_⟩) (by assumption) ?_
  rotate_left
  focus (intro w hSw; (try dsimp only at hSw); go_simp; try with_reducible rfl)
  try simp only [Act.put, List.setIfInBounds_toArray, List.set_cons_zero, List.set_cons_succ, Nat.zero_add]
  refine wpAnyH_take (i := 5) (v := ?_) rfl (by kernel_rfl) (by kernel_rfl) (by kernel_rfl) (fun _ _ _ h => h) (Or.inl ⟨by rfl, ?_⟩) (by assumption) ?_
  rotate_left
  focus (intro w hSw; (try dsimp only at hSw); go_simp; try with_reducible rfl)
  try simp only [Act.put, List.setIfInBounds_toArray, List.set_cons_zero, List.set_cons_succ, Nat.zero_add]
  refine wpAnyH_take (i := 6) (v := ?_) rfl (by kernel_rfl) (by kernel_rfl) (by kernel_rfl) (fun _ _ _ h => h) (Or.inl ⟨by rfl, ?_⟩) (by assumption) ?_
  rotate_left
  focus (intro w hSw; (try dsimp only at hSw); go_simp; try with_reducible rfl)
  try simp only [Act.put, List.setIfInBounds_toArray, List.set_cons_zero, List.set_cons_succ, Nat.zero_add]
  refine wpAnyH_take (i := 7) (v := ?_) rfl (by kernel_rfl) (by kernel_rfl) (by kernel_rfl) (fun _ _ _ h => h) (Or.inl ⟨by rfl, ?_⟩) (by assumption) ?_
  rotate_left
  focus (intro w hSw; (try dsimp only at hSw); go_simp; try with_reducible rfl)
  try simp only [Act.put, List.setIfInBounds_toArray, List.set_cons_zero, List.set_cons_succ, Nat.zero_add]
  refine wpAnyH_take (i := 8) (v := ?_) rfl (by kernel_rfl) (by kernel_rfl) (by kernel_rfl) (fun _ _ _ h => h) (Or.inl ⟨by rfl, ?_⟩) (by assumption) ?_
  rotate_left
  focus (intro w hSw; (try dsimp only at hSw); go_simp; try with_reducible rfl)
  try simp only [Act.put, List.setIfInBounds_toArray, List.set_cons_zero, List.set_cons_succ, Nat.zero_add]
  refine wpAnyH_take (i := 9) (v := ?_) rfl (by kernel_rfl) (by kernel_rfl) (by kernel_rfl) (fun _ _ _ h => h) (Or.inl ⟨by rfl, ?_⟩) (by assumption) ?_
  rotate_left
  focus (intro w hSw; (try dsimp only at hSw); go_simp; try with_reducible rfl)
  try simp only [Act.put, List.setIfInBounds_toArray, List.set_cons_zero, List.set_cons_succ, Nat.zero_add]
  refine wpAnyH_take (i := 10) (v := ?_) rfl (by kernel_rfl) (by kernel_rfl) (by kernel_rfl) (fun _ _ _ h => h) (Or.inl ⟨by rfl, ?_⟩) (by assumption) ?_
  rotate_left
  focus (intro w hSw; (try dsimp only at hSw); go_simp; try with_reducible rfl)
  try simp only [Act.put, List.setIfInBounds_toArray, List.set_cons_zero, List.set_cons_succ, Nat.zero_add]
  refine wpAnyH_take (i := 11) (v := ?_) rfl (by kernel_rfl) (by kernel_rfl) (by kernel_rfl) (fun _ _ _ h => h) (Or.inl ⟨by rfl, ?_⟩) (by assumption) ?_
  rotate_left
  focus (intro w hSw; (try dsimp only at hSw); go_simp; try with_reducible rfl)
  try simp only [Act.put, List.setIfInBounds_toArray, List.set_cons_zero, List.set_cons_succ, Nat.zero_add]
  refine wpAnyH_take (i := 12) (v := ?_) rfl (by kernel_rfl) (by kernel_rfl) (by kernel_rfl) (fun _ _ _ h => h) (Or.inl ⟨by rfl, ?_⟩) (by assumption) ?_
  rotate_left
  focus (intro w hSw; (try dsimp only at hSw); go_simp; try with_reducible rfl)
  try simp only [Act.put, List.setIfInBounds_toArray, List.set_cons_zero, List.set_cons_succ, Nat.zero_add]
  refine wpAnyH_take (i := 13) (v := ?_) rfl (by kernel_rfl) (by kernel_rfl) (by kernel_rfl) (fun _ _ _ h => h) (Or.inl ⟨by rfl, ?_⟩) (by assumption) ?_
  rotate_left
  focus (intro w hSw; (try dsimp only at hSw); go_simp; try with_reducible rfl)
  try simp only [Act.put, List.setIfInBounds_toArray, List.set_cons_zero, List.set_cons_succ, Nat.zero_add]
  refine wpAnyH_take (i := 15) (v := ?_) rfl (by kernel_rfl) (by kernel_rfl) (by kernel_rfl) (fun _ _ _ h => h) (Or.inl ⟨by rfl, ?_⟩) (by assumption) ?_
  rotate_left
  focus (intro w hSw; (try dsimp only at hSw); go_simp; try with_reducible rfl)
  try simp only [Act.put, List.setIfInBounds_toArray, List.set_cons_zero, List.set_cons_succ, Nat.zero_add]
  refine wpAnyH_take (i := 16) (v := ?_) rfl (by kernel_rfl) (by kernel_rfl) (by kernel_rfl) (fun _ _ _ h => h) (Or.inl ⟨by rfl, ?_⟩) (by assumption) ?_
  rotate_left
  focus (intro w hSw; (try dsimp only at hSw); go_simp; try with_reducible rfl)
  try simp only [Act.put, List.setIfInBounds_toArray, List.set_cons_zero, List.set_cons_succ, Nat.zero_add]
  refine wpAnyH_take (i := 17) (v := ?_) rfl (by kernel_rfl) (by kernel_rfl) (by kernel_rfl) (fun _ _ _ h => h) (Or.inl ⟨by rfl, ?_⟩) (by assumption) ?_
  rotate_left
  focus (intro w hSw; (try dsimp only at hSw); go_simp; try with_reducible rfl)
  try simp only [Act.put, List.setIfInBounds_toArray, List.set_cons_zero, List.set_cons_succ, Nat.zero_add]
  refine wpAnyH_take (i := 18) (v := ?_) rfl (by kernel_rfl) (by kernel_rfl) (by kernel_rfl) (fun _ _ _ h => h) (Or.inl ⟨by rfl, ?_⟩) (by assumption) ?_
  rotate_left
  focus (intro w hSw; (try dsimp only at hSw); go_simp; try with_reducible rfl)
  try simp only [Act.put, List.setIfInBounds_toArray, List.set_cons_zero, List.set_cons_succ, Nat.zero_add]
  refine wpAnyH_take (i := 19) (v := ?_) rfl (by kernel_rfl) (by kernel_rfl) (by kernel_rfl) (fun _ _ _ h => h) (Or.inl ⟨by rfl, ?_⟩) (by assumption) ?_
  rotate_left
  focus (intro w hSw; (try dsimp only at hSw); go_simp; try with_reducible rfl)
  try simp only [Act.put, List.setIfInBounds_toArray, List.set_cons_zero, List.set_cons_succ, Nat.zero_add]
  refine wpAnyH_take (i := 20) (v := ?_) rfl (by kernel_rfl) (by kernel_rfl) (by kernel_rfl) (fun _ _ _ h => h) (Or.inl ⟨by rfl, ?_⟩) (by assumption) ?_
  rotate_left
  focus (intro w hSw; (try dsimp only at hSw); go_simp; try with_reducible rfl)
  try simp only [Act.put, List.setIfInBounds_toArray, List.set_cons_zero, List.set_cons_succ, Nat.zero_add]
  refine wpAnyH_ready (rs := [1, 21]) (by kernel_rfl) (by simp) ?_
  refine AllReadyH.cons rfl (fun K hK => ?_) ?_
  go_simp
  refine hK.out _ _ (by go_keep) (fun hHeld => ?_)
  clear hK K
  try simp only [Act.put, List.setIfInBounds_toArray, List.set_cons_zero, List.set_cons_succ, Nat.zero_add]
  refine wpAnyH_ready (rs := [14, 21]) (by kernel_rfl) (by simp) ?_
  refine AllReadyH.cons rfl (fun K hK => ?_) ?_
  (first | (refine step_apps (by rfl) _ _ 57 rfl Try.underlying57 infoRef rfl (by omega) (by rfl) (new_rowA _) (by rfl) (HGV.out _ ?cw) (by rw [rcells_length, List.length_take]; have := HS.out; omega) (rcells_one _) (by omega) (by omega) ?_) | (refine step_apps (by rfl) _ _ 57 rfl Try.underlying57 infoRef rfl (by omega) (by rfl) (new_rowB _ _) (by rfl) (HGV.out _ ?cw) (by rw [rcells_length, List.length_take]; have := HS.out; omega) (rcells_one _) (by omega) (by omega) ?_) | (refine step_apps (by rfl) _ _ 57 rfl Try.underlying57 infoRef rfl (by omega) (by rfl) (new_rowC _ _) (by rfl) (HGV.out _ ?cw) (by rw [rcells_length, List.length_take]; have := HS.out; omega) (rcells_one _) (by omega) (by omega) ?_)); (case cw => (repeat' first | exact Chg.refl [] w6 | refine Chg.alloc ?_ _ | refine chg_drew ?_)); intro ao2 cap2 w7 hr7 ha7; obtain ⟨k2, k1, kf, hc7, hn7, hfar⟩ := HK.out _ _ _ _ ((by repeat' first | exact Chg.refl [] w6 | refine Chg.alloc ?_ _ | refine chg_drew ?_)) (by simp [Value.ownBlock]; try omega) ha7; rw [List.nil_append, Nat.zero_add] at hr7; rw [Nat.zero_add] at hn7; have HR7 := Lib.hid hr7; have HA7 := Lib.hid ha7; have HRX : Hid (∀ W, Chg [] w7 W → RowZ W 27 2 (.slice ao2 (s - n) cap2) (s - n) (rcells (A.stack.take (s - n)))) := (fun W hW => hr7.chg hW (by simp)); have HC7 := Lib.hid hc7; have HN7 := Lib.hid hn7; clear hr7 ha7 hc7 hn7
  refine hK.out _ _ (by go_keep) (fun hHeld => ?_)
  clear hK K
  try simp only [Act.put, List.setIfInBounds_toArray, List.set_cons_zero, List.set_cons_succ, Nat.zero_add]
  refine wpAnyH_ready (rs := [21]) (by kernel_rfl) (by simp) ?_
  refine AllReadyH.cons rfl (fun K hK => ?_) ?_
  go_simp
  refine hK.out _ _ (by go_keep) (fun hHeld => ?_)
  clear hK K
  try simp only [Act.put, List.setIfInBounds_toArray, List.set_cons_zero, List.set_cons_succ, Nat.zero_add]
  refine wpAnyH_ready (rs := [22]) (by kernel_rfl) (by simp) ?_
  refine AllReadyH.cons rfl (fun K hK => ?_) ?_
  refine step_app2 (x0 := .bool true) (x1 := .int .i64 (l : Int)) (by rfl) _ _ (by rfl) (by rfl) (HRX.out _ (by repeat' first | exact Chg.refl [] w7 | refine Chg.alloc ?_ _ | refine chg_drew ?_)) (by rfl) (by first | (simp; done) | (rw [hfar _ _ (by first | (simp; done) | (simp; omega)) (by simp [Value.ownBlock])]; simp; done)) (by first | (simp; done) | (rw [hfar _ _ (by first | (simp; done) | (simp; omega)) (by simp [Value.ownBlock])]; simp; done)) (by rfl) (by rfl) (by omega) ?_; intro ao3 cap3 w8 hr8 ha8; obtain ⟨j2, j1, jf, hc8, hn8, hfar8⟩ := HK.out _ _ _ _ ((by repeat' first | exact HC7.out | refine Chg.alloc ?_ _ | refine chg_drew ?_)) HN7.out ha8; have HR8 := Lib.hid hr8; have HC8 := Lib.hid hc8; have HN8 := Lib.hid hn8; clear hr8 ha8 hc8 hn8
  refine hK.out _ _ (by go_keep) (fun hHeld => ?_)
  clear hK K
  try simp only [Act.put, List.setIfInBounds_toArray, List.set_cons_zero, List.set_cons_succ, Nat.zero_add]
  refine wpAnyH_take (i := 23) (v := ?_) rfl (by kernel_rfl) (by kernel_rfl) (by kernel_rfl) (fun _ _ _ h => h) (Or.inl ⟨by rfl, ?_⟩) (by assumption) ?_
  rotate_left
  focus (intro w hSw; (try dsimp only at hSw); go_simp; try with_reducible rfl)
  try simp only [Act.put, List.setIfInBounds_toArray, List.set_cons_zero, List.set_cons_succ, Nat.zero_add]
  refine wpAnyH_take (i := 24) (v := ?_) rfl (by kernel_rfl) (by kernel_rfl) (by kernel_rfl) (fun _ _ _ h => h) (Or.inl ⟨by rfl, ?_⟩) (by assumption) ?_
  rotate_left
  focus (intro w hSw; (try dsimp only at hSw); go_simp; try with_reducible rfl)
  try simp only [Act.put, List.setIfInBounds_toArray, List.set_cons_zero, List.set_cons_succ, Nat.zero_add]
  refine wpAnyH_done (by kernel_rfl) ?_ _
  rotate_left
  exact AllReadyH.nil
  exact AllReadyH.nil
  refine AllReadyH.cons rfl (fun K hK => ?_) ?_
  go_simp
  refine hK.out _ _ (by go_keep) (fun hHeld => ?_)
  clear hK K
  try simp only [Act.put, List.setIfInBounds_toArray, List.set_cons_zero, List.set_cons_succ, Nat.zero_add]
  refine wpAnyH_ready (rs := [14]) (by kernel_rfl) (by simp) ?_
  refine AllReadyH.cons rfl (fun K hK => ?_) ?_
  (first | (refine step_apps (by rfl) _ _ 57 rfl Try.underlying57 infoRef rfl (by omega) (by rfl) (new_rowA _) (by rfl) (HGV.out _ ?cw) (by rw [rcells_length, List.length_take]; have := HS.out; omega) (rcells_one _) (by omega) (by omega) ?_) | (refine step_apps (by rfl) _ _ 57 rfl Try.underlying57 infoRef rfl (by omega) (by rfl) (new_rowB _ _) (by rfl) (HGV.out _ ?cw) (by rw [rcells_length, List.length_take]; have := HS.out; omega) (rcells_one _) (by omega) (by omega) ?_) | (refine step_apps (by rfl) _ _ 57 rfl Try.underlying57 infoRef rfl (by omega) (by rfl) (new_rowC _ _) (by rfl) (HGV.out _ ?cw) (by rw [rcells_length, List.length_take]; have := HS.out; omega) (rcells_one _) (by omega) (by omega) ?_)); (case cw => (repeat' first | exact Chg.refl [] w6 | refine Chg.alloc ?_ _ | refine chg_drew ?_)); intro ao2 cap2 w7 hr7 ha7; obtain ⟨k2, k1, kf, hc7, hn7, hfar⟩ := HK.out _ _ _ _ ((by repeat' first | exact Chg.refl [] w6 | refine Chg.alloc ?_ _ | refine chg_drew ?_)) (by simp [Value.ownBlock]; try omega) ha7; rw [List.nil_append, Nat.zero_add] at hr7; rw [Nat.zero_add] at hn7; have HR7 := Lib.hid hr7; have HA7 := Lib.hid ha7; have HRX : Hid (∀ W, Chg [] w7 W → RowZ W 27 2 (.slice ao2 (s - n) cap2) (s - n) (rcells (A.stack.take (s - n)))) := (fun W hW => hr7.chg hW (by simp)); have HC7 := Lib.hid hc7; have HN7 := Lib.hid hn7; clear hr7 ha7 hc7 hn7
  refine hK.out _ _ (by go_keep) (fun hHeld => ?_)
  clear hK K
  try simp only [Act.put, List.setIfInBounds_toArray, List.set_cons_zero, List.set_cons_succ, Nat.zero_add]
  refine wpAnyH_ready (rs := [22]) (by kernel_rfl) (by simp) ?_
  refine AllReadyH.cons rfl (fun K hK => ?_) ?_
  refine step_app2 (x0 := .bool true) (x1 := .int .i64 (l : Int)) (by rfl) _ _ (by rfl) (by rfl) (HRX.out _ (by repeat' first | exact Chg.refl [] w7 | refine Chg.alloc ?_ _ | refine chg_drew ?_)) (by rfl) (by first | (simp; done) | (rw [hfar _ _ (by first | (simp; done) | (simp; omega)) (by simp [Value.ownBlock])]; simp; done)) (by first | (simp; done) | (rw [hfar _ _ (by first | (simp; done) | (simp; omega)) (by simp [Value.ownBlock])]; simp; done)) (by rfl) (by rfl) (by omega) ?_; intro ao3 cap3 w8 hr8 ha8; obtain ⟨j2, j1, jf, hc8, hn8, hfar8⟩ := HK.out _ _ _ _ ((by repeat' first | exact HC7.out | refine Chg.alloc ?_ _ | refine chg_drew ?_)) HN7.out ha8; have HR8 := Lib.hid hr8; have HC8 := Lib.hid hc8; have HN8 := Lib.hid hn8; clear hr8 ha8 hc8 hn8
  refine hK.out _ _ (by go_keep) (fun hHeld => ?_)
  clear hK K
  try simp only [Act.put, List.setIfInBounds_toArray, List.set_cons_zero, List.set_cons_succ, Nat.zero_add]
  refine wpAnyH_take (i := 23) (v := ?_) rfl (by kernel_rfl) (by kernel_rfl) (by kernel_rfl) (fun _ _ _ h => h) (Or.inl ⟨by rfl, ?_⟩) (by assumption) ?_
  rotate_left
  focus (intro w hSw; (try dsimp only at hSw); go_simp; try with_reducible rfl)
  try simp only [Act.put, List.setIfInBounds_toArray, List.set_cons_zero, List.set_cons_succ, Nat.zero_add]
  refine wpAnyH_take (i := 24) (v := ?_) rfl (by kernel_rfl) (by kernel_rfl) (by kernel_rfl) (fun _ _ _ h => h) (Or.inl ⟨by rfl, ?_⟩) (by assumption) ?_
  rotate_left
  focus (intro w hSw; (try dsimp only at hSw); go_simp; try with_reducible rfl)
  try simp only [Act.put, List.setIfInBounds_toArray, List.set_cons_zero, List.set_cons_succ, Nat.zero_add]
  refine wpAnyH_done (by kernel_rfl) ?_ _
  rotate_left
  exact AllReadyH.nil
  exact AllReadyH.nil
  exact AllReadyH.nil
  refine AllReadyH.cons rfl (fun K hK => ?_) ?_
  go_simp
  refine hK.out _ _ (by go_keep) (fun hHeld => ?_)
  clear hK K
  try simp only [Act.put, List.setIfInBounds_toArray, List.set_cons_zero, List.set_cons_succ, Nat.zero_add]
  refine wpAnyH_ready (rs := [1]) (by kernel_rfl) (by simp) ?_
  refine AllReadyH.cons rfl (fun K hK => ?_) ?_
  go_simp
  refine hK.out _ _ (by go_keep) (fun hHeld => ?_)
  clear hK K
  try simp only [Act.put, List.setIfInBounds_toArray, List.set_cons_zero, List.set_cons_succ, Nat.zero_add]
  refine wpAnyH_ready (rs := [14]) (by kernel_rfl) (by simp) ?_
  refine AllReadyH.cons rfl (fun K hK => ?_) ?_
  (first | (refine step_apps (by rfl) _ _ 57 rfl Try.underlying57 infoRef rfl (by omega) (by rfl) (new_rowA _) (by rfl) (HGV.out _ ?cw) (by rw [rcells_length, List.length_take]; have := HS.out; omega) (rcells_one _) (by omega) (by omega) ?_) | (refine step_apps (by rfl) _ _ 57 rfl Try.underlying57 infoRef rfl (by omega) (by rfl) (new_rowB _ _) (by rfl) (HGV.out _ ?cw) (by rw [rcells_length, List.length_take]; have := HS.out; omega) (rcells_one _) (by omega) (by omega) ?_) | (refine step_apps (by rfl) _ _ 57 rfl Try.underlying57 infoRef rfl (by omega) (by rfl) (new_rowC _ _) (by rfl) (HGV.out _ ?cw) (by rw [rcells_length, List.length_take]; have := HS.out; omega) (rcells_one _) (by omega) (by omega) ?_)); (case cw => (repeat' first | exact Chg.refl [] w6 | refine Chg.alloc ?_ _ | refine chg_drew ?_)); intro ao2 cap2 w7 hr7 ha7; obtain ⟨k2, k1, kf, hc7, hn7, hfar⟩ := HK.out _ _ _ _ ((by repeat' first | exact Chg.refl [] w6 | refine Chg.alloc ?_ _ | refine chg_drew ?_)) (by simp [Value.ownBlock]; try omega) ha7; rw [List.nil_append, Nat.zero_add] at hr7; rw [Nat.zero_add] at hn7; have HR7 := Lib.hid hr7; have HA7 := Lib.hid ha7; have HRX : Hid (∀ W, Chg [] w7 W → RowZ W 27 2 (.slice ao2 (s - n) cap2) (s - n) (rcells (A.stack.take (s - n)))) := (fun W hW => hr7.chg hW (by simp)); have HC7 := Lib.hid hc7; have HN7 := Lib.hid hn7; clear hr7 ha7 hc7 hn7
  refine hK.out _ _ (by go_keep) (fun hHeld => ?_)
  clear hK K
  try simp only [Act.put, List.setIfInBounds_toArray, List.set_cons_zero, List.set_cons_succ, Nat.zero_add]
  refine wpAnyH_ready (rs := [22]) (by kernel_rfl) (by simp) ?_
  refine AllReadyH.cons rfl (fun K hK => ?_) ?_
  refine step_app2 (x0 := .bool true) (x1 := .int .i64 (l : Int)) (by rfl) _ _ (by rfl) (by rfl) (HRX.out _ (by repeat' first | exact Chg.refl [] w7 | refine Chg.alloc ?_ _ | refine chg_drew ?_)) (by rfl) (by first | (simp; done) | (rw [hfar _ _ (by first | (simp; done) | (simp; omega)) (by simp [Value.ownBlock])]; simp; done)) (by first | (simp; done) | (rw [hfar _ _ (by first | (simp; done) | (simp; omega)) (by simp [Value.ownBlock])]; simp; done)) (by rfl) (by rfl) (by omega) ?_; intro ao3 cap3 w8 hr8 ha8; obtain ⟨j2, j1, jf, hc8, hn8, hfar8⟩ := HK.out _ _ _ _ ((by repeat' first | exact HC7.out | refine Chg.alloc ?_ _ | refine chg_drew ?_)) HN7.out ha8; have HR8 := Lib.hid hr8; have HC8 := Lib.hid hc8; have HN8 := Lib.hid hn8; clear hr8 ha8 hc8 hn8
  refine hK.out _ _ (by go_keep) (fun hHeld => ?_)
  clear hK K
  try simp only [Act.put, List.setIfInBounds_toArray, List.set_cons_zero, List.set_cons_succ, Nat.zero_add]
  refine wpAnyH_take (i := 23) (v := ?_) rfl (by kernel_rfl) (by kernel_rfl) (by kernel_rfl) (fun _ _ _ h => h) (Or.inl ⟨by rfl, ?_⟩) (by assumption) ?_
  rotate_left
  focus (intro w hSw; (try dsimp only at hSw); go_simp; try with_reducible rfl)
  try simp only [Act.put, List.setIfInBounds_toArray, List.set_cons_zero, List.set_cons_succ, Nat.zero_add]
  refine wpAnyH_take (i := 24) (v := ?_) rfl (by kernel_rfl) (by kernel_rfl) (by kernel_rfl) (fun _ _ _ h => h) (Or.inl ⟨by rfl, ?_⟩) (by assumption) ?_
  rotate_left
  focus (intro w hSw; (try dsimp only at hSw); go_simp; try with_reducible rfl)
  try simp only [Act.put, List.setIfInBounds_toArray, List.set_cons_zero, List.set_cons_succ, Nat.zero_add]
  refine wpAnyH_done (by kernel_rfl) ?_ _
  rotate_left
  exact AllReadyH.nil
  exact AllReadyH.nil
  exact AllReadyH.nil
  exact AllReadyH.nil
  all_goals
    show Oper.wp _ _ _ _ _ _
    go_simp
    have HRN := Lib.hid (RefIs.setS (HW.out.chg HC8.out (by simp)) (S' := A.stack.take (A.stack.length - n) ++ [⟨true, (l : Int)⟩]) (vs' := .slice ao3 (s - n + 1) cap3) (by
      have h := HR8.out
      have e1 : (A.stack.take (A.stack.length - n) ++ [(⟨true, (l : Int)⟩ : Ref)]).length = s - n + 1 := by have := HS.out; simp; omega
      rw [e1, rcells_append, ← HS.out]
      exact h) (fun k hk => .inr fun hm => by have := HN8.out k hk; have := HW.out.lt k hm; omega))
    have c18 : (w8.setCell ⟨q, 2, none⟩ (.slice ao3 (s - n + 1) cap3)).cell? ⟨q, 1, none⟩ = some (.slice al l cl) := by rw [HRN.out.c1, HVL.out, ← HL.out]
    have hs6 : w.heap.size < w6.heap.size := by have := HB.out.size; simp at this; omega
    have hset : ∀ i, (w8.setCell ⟨q, 2, none⟩ (.slice ao3 (s - n + 1) cap3)).cell? ⟨w.heap.size, i, none⟩ = w6.cell? ⟨w.heap.size, i, none⟩ := fun i => by
      rw [World.cell?_setCell_far _ _ _ _ (show q ≠ w.heap.size by omega)]
      exact HC8.out.cell (p := ⟨w.heap.size, i, none⟩) hs6 (by simp)
    have g0 : (w8.setCell ⟨q, 2, none⟩ (.slice ao3 (s - n + 1) cap3)).cell? ⟨w.heap.size, 0, none⟩ = some (.int .i64 o.kind) := (hset 0).trans b0
    have g1 : (w8.setCell ⟨q, 2, none⟩ (.slice ao3 (s - n + 1) cap3)).cell? ⟨w.heap.size, 1, none⟩ = some (.slice ao o.fields.length cap) := (hset 1).trans b1
    have g2 : (w8.setCell ⟨q, 2, none⟩ (.slice ao3 (s - n + 1) cap3)).cell? ⟨w.heap.size, 2, none⟩ = some (.bool o.raw) := (hset 2).trans b2
    have g3 : (w8.setCell ⟨q, 2, none⟩ (.slice ao3 (s - n + 1) cap3)).cell? ⟨w.heap.size, 3, none⟩ = some (.string ⟨o.bytes.toArray⟩) := (hset 3).trans b3
    have fq : (w8.setCell ⟨q, 2, none⟩ (.slice ao3 (s - n + 1) cap3)).frozen? ⟨q, 1, none⟩ = false := HRN.out.fr 1
    have HCN : Hid (Chg (rfoot q vl vs vp L) w (w8.setCell ⟨q, 2, none⟩ (.slice ao3 (s - n + 1) cap3))) := by
      have h1 : Chg (rfoot q vl vs vp L) w w6 := ((Chg.refl _ w).alloc _).trans (chg_of_below HB.out) (fun k hk => .inr (by have := (List.mem_range'_1.1 hk).1; omega))
      exact (h1.trans HC8.out (by simp [Within])).setCell (p := ⟨q, 2, none⟩) (.inl (mem_rfoot.2 (.inl rfl))) _
    have hwz : w.heap.size < (w8.setCell ⟨q, 2, none⟩ (.slice ao3 (s - n + 1) cap3)).heap.size := by have := HC8.out.size; simp; omega
    have HNS : Hid (∀ k, (Value.slice ao3 (s - n + 1) cap3).ownBlock = some k → w.heap.size ≤ k) := fun k hk => by have := HN8.out k hk; omega
    generalize w8.setCell ⟨q, 2, none⟩ (.slice ao3 (s - n + 1) cap3) = W9 at *
    clear hset HR8 HC8 HN8 hHeld j1 j2 jf k2 k1 kf hfar hfar8 HR7 HA7 HC7 HN7 HRX c1 c2 f1 f2 b0 b1 b2 b3 HGV HK
    have hqz : q < W9.heap.size := HRN.out.lt q (mem_rfoot.2 (.inl rfl))
    have HBL : Hid (∀ W, Chg [] W9 W → RowZ W 82 4 (.slice al l cl) l (ocells L)) := fun W hW => by
      have h := HRN.out.rl.chg hW (by simp)
      rw [HVL.out, ← HL.out] at h
      exact h
    have HK2 : Hid (∀ W w' v', Chg [] W9 W → Appended W (.slice al l cl) w' v' → w'.cell? ⟨q, 1, none⟩ = some (.slice al l cl) ∧ w'.cell? ⟨w.heap.size, 0, none⟩ = some (.int .i64 o.kind) ∧ w'.cell? ⟨w.heap.size, 1, none⟩ = some (.slice ao o.fields.length cap) ∧ w'.cell? ⟨w.heap.size, 2, none⟩ = some (.bool o.raw) ∧ w'.cell? ⟨w.heap.size, 3, none⟩ = some (.string ⟨o.bytes.toArray⟩) ∧ w'.frozen? ⟨q, 1, none⟩ = false) := fun W w' v' hW ha => by
      have hc := ha.chg
      have all : Chg (Value.slice al l cl).ownBlock.toList W9 w' := (hW.mono (F' := (Value.slice al l cl).ownBlock.toList) (by simp)).trans hc (fun k hk => .inl hk)
      have hvl : vl = .slice al l cl := by rw [HVL.out, HL.out]
      have n1 : q ∉ (Value.slice al l cl).ownBlock.toList := fun e => HRN.out.n1 (by rw [hvl]; simpa using e)
      have n2 : w.heap.size ∉ (Value.slice al l cl).ownBlock.toList := fun e => by
        have := HH.out.rl.lt (k := w.heap.size) (by rw [hvl]; simpa using e)
        omega
      exact ⟨(all.cell (p := ⟨q, 1, none⟩) hqz n1).trans c18, (all.cell (p := ⟨w.heap.size, 0, none⟩) hwz n2).trans g0, (all.cell (p := ⟨w.heap.size, 1, none⟩) hwz n2).trans g1, (all.cell (p := ⟨w.heap.size, 2, none⟩) hwz n2).trans g2, (all.cell (p := ⟨w.heap.size, 3, none⟩) hwz n2).trans g3, (all.frozen (p := ⟨q, 1, none⟩) hqz n1).trans fq⟩
    go_wp2
    refine wp_region_lastL (S := (fun w' => w'.cell? ⟨q, 1, none⟩ = some (.slice al l cl) ∧ w'.cell? ⟨w.heap.size, 0, none⟩ = some (.int .i64 o.kind) ∧ w'.cell? ⟨w.heap.size, 1, none⟩ = some (.slice ao o.fields.length cap) ∧ w'.cell? ⟨w.heap.size, 2, none⟩ = some (.bool o.raw) ∧ w'.cell? ⟨w.heap.size, 3, none⟩ = some (.string ⟨o.bytes.toArray⟩))) (by kernel_rfl) (by simp only [butLast]; rfl) (by simp only [lastOf]; rfl) (by kernel_rfl) (by kernel_rfl) ?_ (fun hHeld => ?_)
    focus go_keep
    try simp only [List.size_toArray, List.length_cons, List.length_nil]
    refine wpAnyH_take (i := 0) (v := ?_) rfl (by kernel_rfl) (by kernel_rfl) (by kernel_rfl) (fun _ _ _ h => h) (Or.inl ⟨by rfl, ?_⟩) (by assumption) ?_
    rotate_left
    focus (intro w hSw; (try dsimp only at hSw); go_simp; try with_reducible rfl)
    try simp only [Act.put, List.setIfInBounds_toArray, List.set_cons_zero, List.set_cons_succ, Nat.zero_add]
    refine wpAnyH_take (i := 1) (v := ?_) rfl (by kernel_rfl) (by kernel_rfl) (by kernel_rfl) (fun _ _ _ h => h) (Or.inl ⟨by rfl, ?_⟩) (by assumption) ?_
    rotate_left
    focus (intro w hSw; (try dsimp only at hSw); go_simp; try with_reducible rfl)
    try simp only [Act.put, List.setIfInBounds_toArray, List.set_cons_zero, List.set_cons_succ, Nat.zero_add]
    refine wpAnyH_take (i := 2) (v := ?_) rfl (by kernel_rfl) (by kernel_rfl) (by kernel_rfl) (fun _ _ _ h => h) (Or.inl ⟨by rfl, ?_⟩) (by assumption) ?_
    rotate_left
    focus (intro w hSw; (try dsimp only at hSw); go_simp; try with_reducible rfl)
    try simp only [Act.put, List.setIfInBounds_toArray, List.set_cons_zero, List.set_cons_succ, Nat.zero_add]
    refine wpAnyH_take (i := 3) (v := ?_) rfl (by kernel_rfl) (by kernel_rfl) (by kernel_rfl) (fun _ _ _ h => h) (Or.inl ⟨by rfl, ?_⟩) (by assumption) ?_
    rotate_left
    focus (intro w hSw; (try dsimp only at hSw); go_simp; try with_reducible rfl)
    try simp only [Act.put, List.setIfInBounds_toArray, List.set_cons_zero, List.set_cons_succ, Nat.zero_add]
    refine wpAnyH_take (i := 4) (v := ?_) rfl (by kernel_rfl) (by kernel_rfl) (by kernel_rfl) (fun _ _ _ h => h) (Or.inl ⟨by rfl, ?_⟩) (by assumption) ?_
    rotate_left
    focus (intro w hSw; (try dsimp only at hSw); go_simp; try with_reducible rfl)
    try simp only [Act.put, List.setIfInBounds_toArray, List.set_cons_zero, List.set_cons_succ, Nat.zero_add]
    refine wpAnyH_take (i := 5) (v := ?_) rfl (by kernel_rfl) (by kernel_rfl) (by kernel_rfl) (fun _ _ _ h => h) (Or.inl ⟨by rfl, ?_⟩) (by assumption) ?_
    rotate_left
    focus (intro w hSw; (try dsimp only at hSw); go_simp; try with_reducible rfl)
    try simp only [Act.put, List.setIfInBounds_toArray, List.set_cons_zero, List.set_cons_succ, Nat.zero_add]
    refine wpAnyH_ready (rs := [6]) (by kernel_rfl) (by simp) ?_
    refine AllReadyH.cons rfl (fun K hK => ?_) ?_
    go_simp
    refine hK.out _ _ (by go_keep) (fun hHeld => ?_)
    clear hK K
    try simp only [Act.put, List.setIfInBounds_toArray, List.set_cons_zero, List.set_cons_succ, Nat.zero_add]
    refine wpAnyH_ready (rs := [7]) (by kernel_rfl) (by simp) ?_
    refine AllReadyH.cons rfl (fun K hK => ?_) ?_
    refine step_apps (by rfl) _ _ 56 (by rfl) Try.underlying56 infoOb rfl (by omega) (by rfl) (HBL.out _ (by repeat' first | exact Chg.refl [] W9 | refine Chg.alloc ?_ _ | refine chg_drew ?_)) (by rfl) (.inr ⟨_, 1, rfl, four_new⟩) (by rfl) (by simp [Value.oneCell']) (by omega) (by omega) ?_; intro ao9 cap9 w10 hr10 ha10; obtain ⟨j1, j2, j3, j4, j5, jf⟩ := HK2.out _ _ _ (by repeat' first | exact Chg.refl [] W9 | refine Chg.alloc ?_ _ | refine chg_drew ?_) ha10; have HR10 := Lib.hid hr10; have HA10 := Lib.hid ha10; clear hr10 ha10
    refine hK.out _ _ (by go_keep) (fun hHeld => ?_)
    clear hK K
    try simp only [Act.put, List.setIfInBounds_toArray, List.set_cons_zero, List.set_cons_succ, Nat.zero_add]
    refine wpAnyH_take (i := 8) (v := ?_) rfl (by kernel_rfl) (by kernel_rfl) (by kernel_rfl) (fun _ _ _ h => h) (Or.inl ⟨by rfl, ?_⟩) (by assumption) ?_
    rotate_left
    focus (intro w hSw; (try dsimp only at hSw); go_simp; try with_reducible rfl)
    try simp only [Act.put, List.setIfInBounds_toArray, List.set_cons_zero, List.set_cons_succ, Nat.zero_add]
    refine wpAnyH_take (i := 9) (v := ?_) rfl (by kernel_rfl) (by kernel_rfl) (by kernel_rfl) (fun _ _ _ h => h) (Or.inl ⟨by rfl, ?_⟩) (by assumption) ?_
    rotate_left
    focus (intro w hSw; (try dsimp only at hSw); go_simp; try with_reducible rfl)
    try simp only [Act.put, List.setIfInBounds_toArray, List.set_cons_zero, List.set_cons_succ, Nat.zero_add]
    refine wpAnyH_done (by kernel_rfl) ?_ _
    rotate_left
    exact AllReadyH.nil
    exact AllReadyH.nil
    show Oper.wp _ _ _ _ _ _
    go_simp
    go_wp2
    go_ret
    have hvl : vl = .slice al l cl := by rw [HVL.out, HL.out]
    have hA := HA10.out
    rw [← hvl] at hA
    have hcw := (HCN.out.drewN 1).alloc (.cells #[.int .i64 o.kind, .slice ao o.fields.length cap, .bool o.raw, .string ⟨o.bytes.toArray⟩] 82)
    obtain ⟨e1, e2⟩ := ((HRN.out.drewN 1).alloc (.cells #[.int .i64 o.kind, .slice ao o.fields.length cap, .bool o.raw, .string ⟨o.bytes.toArray⟩] 82)).appL (x := (o, .slice ao o.fields.length cap)) (vl' := .slice ao9 (l + 1) cap9) (w' := w10) (by
      rw [ocells_append, List.length_append, List.length_singleton, ← HL.out]
      exact HR10.out) hA (HRV.out.chg hcw HVV.out) (fun k hk hm => by
      have h1 := HVV.out k hk
      have h2 : k < w.heap.size := HRV.out.lt hk
      rw [mem_rfoot] at h1 hm
      rcases hm with e | e | e | e | e
      · exact h1 (.inl e)
      · exact h1 (.inr (.inl e))
      · have := HNS.out k e; omega
      · exact h1 (.inr (.inr (.inr (.inl e))))
      · exact h1 (.inr (.inr (.inr (.inr e)))))
    have e3 : (⟨true, (l : Int)⟩ : Ref) = ⟨true, (L.length : Int)⟩ := by rw [HL.out]
    rw [e3] at e1
    refine ⟨rfl, _, _, e1, hcw.trans e2 (fun k hk => ?_), fun k hk => ?_, HNS.out⟩
    · rcases mem_rfoot.1 hk with e | e | e | e | e
      · exact .inl (mem_rfoot.2 (.inl e))
      · exact .inl (mem_rfoot.2 (.inr (.inl e)))
      · exact .inr (HNS.out k e)
      · exact .inl (mem_rfoot.2 (.inr (.inr (.inr (.inl e)))))
      · exact .inl (mem_rfoot.2 (.inr (.inr (.inr (.inr e)))))
    · rcases hA.out hk with e | e
      · exact .inl e
      · refine .inr ?_
        simp at e
        omega
end
end Go.Proofs.Ytlbiapgikkjooaa
