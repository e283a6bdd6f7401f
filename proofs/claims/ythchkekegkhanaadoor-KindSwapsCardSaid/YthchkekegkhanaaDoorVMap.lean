/- Maps from numbers to values of any type. -/
import Derived.Test.YthchkekegkhanaaDoorMemZ
namespace Go.Proofs.YthchkekegkhanaaDoor
open Go.RowKit Go.Maps
open Go.ChangeMaps Go.MapKept

/-- An element reads as itself. -/
def heldElem (v : Value) : Option (DataW Value × List MemPlace) := some (.held v, [])
def vmapAt (D : DataW Value) (k : Int) : Option Value :=
  if Maps.has D (.int .i64 k) then some (match D.atKey (.int .i64 k) (.held undef) with | .held v => v | _ => undef) else none

/-- Block b is a map that gives what f gives; at most n entries were laid. -/
def VMap (P : Program) (K : TypeId) (w : World) (b n : Nat) (f : Int → Option Value) : Prop :=
  ∃ D, w.ownsMap (H := Value) P K heldElem b n D ∧ ∀ k, vmapAt D k = f k

section
variable {P : Program} {K E : TypeId} {w : World} {b n : Nat} {f : Int → Option Value}
theorem VMap.lt (h : VMap P K w b n f) : b < w.heap.size := by obtain ⟨D, h, _⟩ := h; exact h.lt
theorem VMap.chg {F : List Nat} {w' : World} (h : VMap P K w b n f) (hc : Chg F w w') (hb : b ∉ F) : VMap P K w' b n f := by
  obtain ⟨D, h, hf⟩ := h
  obtain ⟨es, clock, hb', rest⟩ := h
  exact ⟨D, ⟨es, clock, (hc.block b (Array.getElem?_eq_some_iff.1 hb').1 hb).trans hb', rest⟩, hf⟩
theorem VMap.made (w : World) : VMap P K (w.alloc (.map #[] 0)) w.heap.size 0 (fun _ => none) :=
  ⟨.map [], World.ownsMap_made w P K _, fun k => by simp [vmapAt, Maps.has]⟩
theorem VMap.mono (h : VMap P K w b n f) {n' : Nat} (hn : n ≤ n') : VMap P K w b n' f := by obtain ⟨D, h, hf⟩ := h; exact ⟨D, h.mono hn, hf⟩
theorem VMap.isMap {D : DataW Value} (h : w.ownsMap (H := Value) P K heldElem b n D) : Maps.IsMap D := by
  obtain ⟨es, clock, _, _, _, hD⟩ := h; exact ⟨_, hD⟩
theorem vmapAt_isSome (D : DataW Value) (k : Int) : (vmapAt D k).isSome = Maps.has D (.int .i64 k) := by unfold vmapAt; cases Maps.has D (.int .i64 k) <;> simp
theorem at_any_default {D : DataW Value} {k : Lit} (h : Maps.has D k = true) (z z' : DataW Value) : D.atKey k z = D.atKey k z' := by
  cases D with
  | map es =>
    simp only [DataW.atKey]
    split
    · rfl
    · rename_i hf
      have hh : es.any (fun p => p.1.sameKey k) = true := h
      obtain ⟨p, hp, hk⟩ := List.any_eq_true.1 hh
      exact absurd hk (by simpa using List.find?_eq_none.1 hf p hp)
  | _ => simp [Maps.has] at h
theorem vmapAt_val {D : DataW Value} {k : Int} {z v : Value} (h : D.atKey (.int .i64 k) (.held z) = .held v) : (vmapAt D k).getD z = v := by
  unfold vmapAt
  cases hh : Maps.has D (.int .i64 k)
  · rw [Maps.atKey_of_not_has hh] at h
    simp at h ⊢
    exact h
  · have e := at_any_default hh (.held z) (.held undef)
    rw [← e, h]; simp
theorem vlit_ne {a k : Int} (h : a ≠ k) : (Lit.int .i64 a) ≠ (Lit.int .i64 k) := fun e => h (by injection e)
theorem vmapAt_put {D : DataW Value} (hD : Maps.IsMap D) {k : Int} (hk : WideAt.IsKeyLit (.int .i64 k)) (v : Value) (a : Int) : vmapAt (D.put (.int .i64 k) (.held v)) a = if a = k then some v else vmapAt D a := by
  unfold vmapAt
  by_cases e : a = k
  · subst e
    rw [Maps.has_put_same hD hk, Maps.atKey_put_same hD hk]; simp
  · rw [if_neg e, Maps.has_put_other (vlit_ne e), Maps.atKey_put_other (vlit_ne e)]

/-- v, ok := m[k], as an equation on the run. -/
theorem VMap.look (h : VMap P K w b n f) {t : TypeId} (hk : P.underlying K = some (.int .i64)) (ht : P.underlying t = some (.map K E)) {z : Value} (hz : (zeroValue E).run P w = .ok z w) {key : Int} (hkw : (Lit.int .i64 key).wf = true) :
    (Instr.lookup t (.map (some b)) (.int .i64 key) true).run P w = .ok (.tuple #[(f key).getD z, .bool (f key).isSome]) w := by
  obtain ⟨D, hown, hf⟩ := h
  obtain ⟨v, ps, hrun, hv⟩ := hown.look_ok (int_keyed hk) ht hz (zd := .held z) (zp := []) rfl (keyOf_int_mk hk hkw)
  have e : D.atKey (.int .i64 key) (.held z) = .held v := by
    simp only [heldElem, Option.some.injEq, Prod.mk.injEq] at hv
    exact hv.1.symm
  have h1 := vmapAt_val e
  have h2 := vmapAt_isSome D key
  rw [hf key] at h1 h2
  rw [hrun, ← h1, ← h2]

/-- m[k] = v, as an equation on the run. -/
theorem VMap.store (h : VMap P K w b n f) {t : TypeId} (hk : P.underlying K = some (.int .i64)) (ht : P.underlying t = some (.map K E)) (hn : n < maxLen) {key : Int} (v : Value) (hkw : (Lit.int .i64 key).wf = true) :
    ∃ w', (Instr.mapUpdate t (.map (some b)) (.int .i64 key) v).run P w = .ok () w' ∧ VMap P K w' b (n + 1) (fun j => if j = key then some v else f j) ∧ Chg [b] w w' := by
  obtain ⟨D, hown, hf⟩ := h
  obtain ⟨w', hrun, r1, r2⟩ := hown.store (int_keyed hk) ht hn (keyOf_int_mk hk hkw) (d := .held v) (ps := []) rfl
  refine ⟨w', hrun, ⟨_, r1, fun j => ?_⟩, (Chg.refl [b] w).grown r2.grown (fun k hk => .inl (by simp at hk; simp [hk]))⟩
  rw [vmapAt_put (VMap.isMap hown) ((int_keyed hk).key (keyOf_int_mk hk hkw)), hf j]
/-- .. as a step of a region that goes in order. -/
theorem wpList_update_vmap {ops : Array Oper} {rest : List Oper} {o : Oper} {a : Act} {Q : Exit → Act → World → Prop} (hg : o.guard = none) (m x v : Operand) (t : TypeId) (hop : o.op = Op.mapUpdate t m x v)
    (hk : P.underlying K = some (.int .i64)) (ht : P.underlying t = some (.map K E))
    (h : VMap P K w b n f) (hn : n < maxLen) (hm : a.eval m = .map (some b)) (key : Int) (val : Value) (hx : a.eval x = .int .i64 key) (hv : a.eval v = val) (hkw : (Lit.int .i64 key).wf = true)
    (hK : ∀ w', VMap P K w' b (n + 1) (fun j => if j = key then some val else f j) → Chg [b] w w' → wpList P ops Q rest (a.put o.dst undef) w') :
    wpList P ops Q (o :: rest) a w := by
  refine wpList_plain hg fun K' hK' => ?_
  obtain ⟨w', hrun, r1, r2⟩ := h.store hk ht hn val hkw
  unfold Oper.wp
  simp [execOp, hop, hm, hx, hv, hrun, Result.andThen]
  exact hK' _ _ (hK w' r1 r2)
end
end Go.Proofs.YthchkekegkhanaaDoor
