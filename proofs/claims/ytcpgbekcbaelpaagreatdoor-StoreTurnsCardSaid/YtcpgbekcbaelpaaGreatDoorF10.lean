/- Texts of the proof, in build order: MemZ, VMap. -/
import Derived.Test.YtcpgbekcbaelpaaGreatDoorF07
import Derived.Deep.LoopGhost
import Derived.Lib.Hide
import Derived.Deep.QuietTactic
import Derived.BigQuiet
import Derived.Deep.RegionHeld3
import Derived.Deep.RegionLaw
import Derived.StillTailTactics
import Derived.IntWalk
set_option linter.unusedVariables false
set_option linter.unusedSimpArgs false
set_option linter.unusedSectionVars false
/- Rows whose elements have several cells. -/
namespace Go.Proofs.YtcpgbekcbaelpaaGreatDoor
open Go.RowKit Go.Maps
set_option linter.unusedSectionVars false
set_option linter.unusedSimpArgs false
set_option linter.unusedVariables false

def RowZ (w : World) (e : TypeId) (sz : Nat) (v : Value) (n : Nat) (xs : List Value) : Prop := w.ownsRow 0 e sz v n xs
theorem RowZ.nil (w : World) (e : TypeId) (sz : Nat) : RowZ w e sz (.slice none 0 0) 0 [] := World.ownsRow_nil w 0 e sz
theorem RowZ.lt {w : World} {e : TypeId} {sz n : Nat} {v : Value} {xs : List Value} (h : RowZ w e sz v n xs) {k : Nat} (hk : v.ownBlock = some k) : k < w.heap.size := (World.ownsRow.lt h k hk).2
theorem RowZ.chg {F : List Nat} {w w' : World} {e : TypeId} {sz n : Nat} {v : Value} {xs : List Value} (h : RowZ w e sz v n xs) (hc : Chg F w w') (hF : ∀ k, v.ownBlock = some k → k ∉ F) : RowZ w' e sz v n xs := by
  refine ⟨h.1, ?_⟩
  rcases h.2 with hn | ⟨g, cap, cur, rfl, hb, hg, rest⟩
  · exact .inl hn
  · exact .inr ⟨g, cap, cur, rfl, hb, (hc.block g (Array.getElem?_eq_some_iff.1 hg).1 (hF g rfl)).trans hg, rest⟩
theorem RowZ.below {w w' : World} {N : Nat} {e : TypeId} {sz n : Nat} {v : Value} {xs : List Value} (h : RowZ w e sz v n xs) (hb : Below N w w') (hF : ∀ k, v.ownBlock = some k → k < N) : RowZ w' e sz v n xs := by
  refine ⟨h.1, ?_⟩
  rcases h.2 with hn | ⟨g, cap, cur, rfl, hb', hg, rest⟩
  · exact .inl hn
  · exact .inr ⟨g, cap, cur, rfl, hb', (hb.block g (hF g rfl)).trans hg, rest⟩
theorem Chg.thenBelow {F : List Nat} {a b c : World} (h : Chg F a b) (k : Below a.heap.size b c) : Chg F a c :=
  ⟨k.os.trans h.os, k.tape.trans h.tape, k.output.trans h.output, Nat.le_trans h.size k.size, fun i hi hn => (k.block i hi).trans (h.block i hi hn)⟩
theorem RowZ.form {w : World} {e : TypeId} {sz n : Nat} {v : Value} {xs : List Value} (h : RowZ w e sz v n xs) :
    ∃ ao cap, v = .slice ao n cap ∧ n ≤ cap ∧ cap ≤ maxLen ∧ (ao = none → n = 0 ∧ cap = 0) ∧ (∀ a, ao = some a → ∃ g, a = ⟨g, 0, none⟩ ∧ g < w.heap.size ∧ v.ownBlock = some g) := by
  rcases h.2 with ⟨rfl, hn⟩ | ⟨g, cap, cur, rfl, _, hg, hle, hm, _⟩
  · subst hn
    exact ⟨none, 0, rfl, Nat.le_refl _, by unfold maxLen; omega, fun _ => ⟨rfl, rfl⟩, fun a h => by cases h⟩
  · exact ⟨_, cap, rfl, hle, hm, (by intro h; cases h), fun a h => by cases h; exact ⟨g, rfl, (Array.getElem?_eq_some_iff.1 hg).1, rfl⟩⟩
theorem RowZ.cellAt {w : World} {e : TypeId} {g n cap sz : Nat} {xs : List Value} (h : RowZ w e sz (.slice (some ⟨g, 0, none⟩) n cap) n xs) (j : Nat) (hj : j < xs.length) : w.cell? ⟨g, j, none⟩ = xs[j]? :=
  World.ownsRow.cellAt h j (by have := h.1; omega)

theorem wpList_appz {P : Program} (w : World) {ops : Array Oper} {rest : List Oper} {o : Oper} {a : Act} {Q : Exit → Act → World → Prop} (hgd : o.guard = none) (s x : Operand) (t : TypeId)
    (ho : o.op = .call { callee := .builtin .append, args := #[s, x], argTypes := #[t, t] })
    (e : TypeId) (z : Value) (sz bytes : Nat) (ht : P.underlying t = some (.slice e)) (hi : (P.info? e).map (fun i => (i.zero, i.size, i.bytes)) = some (some z, sz, bytes)) (hzs : z.cells.size = sz) (hsz : 0 < sz)
    (v : Value) (n : Nat) (xs : List Value) (hs : a.eval s = v) (hr : RowZ w e sz v n xs)
    (ad : Addr) (m c : Nat) (news : List Value) (hx : a.eval x = .slice (some ad) m c) (hm : 0 < m) (hl : news.length = m * sz) (hnews : ∀ j u, news[j]? = some u → w.cell? (ad.add j) = some u) (h1 : ∀ u ∈ news, u.oneCell' = true)
    (h63 : n + m ≤ 1099511627776) (hb : bytes ≤ 100)
    (h : ∀ g cap w', RowZ w' e sz (.slice (some ⟨g, 0, none⟩) (n + m) cap) (n + m) (xs ++ news) → w.grownBy w' v.ownBlock → (v.ownBlock = some g ∨ g = w.heap.size) → wpList P ops Q rest (a.put o.dst (.slice (some ⟨g, 0, none⟩) (n + m) cap)) w') :
    wpList P ops Q (o :: rest) a w := by
  obtain ⟨i0, hi, hz0, hz1, hz2⟩ := info_parts hi
  have hby : (n + m) * bytes ≤ 140737488355328 := Nat.le_trans (Nat.mul_le_mul h63 hb) (by decide)
  refine wpList_append_own_at w hgd s x t ho 0 e i0 z sz bytes ht hi hz0 hz1 hz2 hzs hsz v n xs hs hr ad m c news hx hl hnews h1 (by unfold maxLen; omega) hby (by omega) ?_
  intro v' w' hown hg hnil hloc
  rcases hown.2 with ⟨hv, hn⟩ | ⟨g, cap, cur, hv, rest'⟩
  · omega
  · subst hv
    refine h g cap w' hown hg ?_
    rcases hloc with h | h
    · exact .inl h.symm
    · simp [Value.ownBlock] at h; exact .inr h
end Go.Proofs.YtcpgbekcbaelpaaGreatDoor
/- Maps from numbers to values of any type. -/
namespace Go.Proofs.YtcpgbekcbaelpaaGreatDoor
open Go.RowKit Go.Maps
open Go.ChangeMaps Go.MapKept

def heldElem (v : Value) : Option (DataW Value × List MemPlace) := some (.held v, [])
def vmapAt (D : DataW Value) (k : Int) : Option Value :=
  if Maps.has D (.int .i64 k) then some (match D.atKey (.int .i64 k) (.held undef) with | .held v => v | _ => undef) else none

def VMap (P : Program) (K : TypeId) (w : World) (b n : Nat) (f : Int → Option Value) : Prop :=
  ∃ D, w.ownsMap (H := Value) P K heldElem b n D ∧ ∀ k, vmapAt D k = f k

section
variable {P : Program} {K E : TypeId} {w : World} {b n : Nat} {f : Int → Option Value}
theorem VMap.lt (h : VMap P K w b n f) : b < w.heap.size := by obtain ⟨D, h, _⟩ := h; exact h.lt
theorem VMap.chg {F : List Nat} {w' : World} (h : VMap P K w b n f) (hc : Chg F w w') (hb : b ∉ F) : VMap P K w' b n f := by
  obtain ⟨D, h, hf⟩ := h
  obtain ⟨es, clock, hb', rest⟩ := h
  exact ⟨D, ⟨es, clock, (hc.block b (Array.getElem?_eq_some_iff.1 hb').1 hb).trans hb', rest⟩, hf⟩
theorem VMap.made (w : World) : VMap P K (w.alloc (.map #[] 0)) w.heap.size 0 (fun _ => none) :=
  ⟨.map [], World.ownsMap_made w P K _, fun k => by simp [vmapAt, Maps.has]⟩
theorem VMap.mono (h : VMap P K w b n f) {n' : Nat} (hn : n ≤ n') : VMap P K w b n' f := by obtain ⟨D, h, hf⟩ := h; exact ⟨D, h.mono hn, hf⟩
theorem VMap.isMap {D : DataW Value} (h : w.ownsMap (H := Value) P K heldElem b n D) : Maps.IsMap D := by
  obtain ⟨es, clock, _, _, _, hD⟩ := h; exact ⟨_, hD⟩
theorem vmapAt_isSome (D : DataW Value) (k : Int) : (vmapAt D k).isSome = Maps.has D (.int .i64 k) := by unfold vmapAt; cases Maps.has D (.int .i64 k) <;> simp
theorem at_any_default {D : DataW Value} {k : Lit} (h : Maps.has D k = true) (z z' : DataW Value) : D.atKey k z = D.atKey k z' := by
  cases D with
  | map es =>
    simp only [DataW.atKey]
    split
    · rfl
    · rename_i hf
      have hh : es.any (fun p => p.1.sameKey k) = true := h
      obtain ⟨p, hp, hk⟩ := List.any_eq_true.1 hh
      exact absurd hk (by simpa using List.find?_eq_none.1 hf p hp)
  | _ => simp [Maps.has] at h
theorem vmapAt_val {D : DataW Value} {k : Int} {z v : Value} (h : D.atKey (.int .i64 k) (.held z) = .held v) : (vmapAt D k).getD z = v := by
  unfold vmapAt
  cases hh : Maps.has D (.int .i64 k)
  · rw [Maps.atKey_of_not_has hh] at h
    simp at h ⊢
    exact h
  · have e := at_any_default hh (.held z) (.held undef)
    rw [← e, h]; simp
theorem vlit_ne {a k : Int} (h : a ≠ k) : (Lit.int .i64 a) ≠ (Lit.int .i64 k) := fun e => h (by injection e)
theorem vmapAt_put {D : DataW Value} (hD : Maps.IsMap D) {k : Int} (hk : WideAt.IsKeyLit (.int .i64 k)) (v : Value) (a : Int) : vmapAt (D.put (.int .i64 k) (.held v)) a = if a = k then some v else vmapAt D a := by
  unfold vmapAt
  by_cases e : a = k
  · subst e
    rw [Maps.has_put_same hD hk, Maps.atKey_put_same hD hk]; simp
  · rw [if_neg e, Maps.has_put_other (vlit_ne e), Maps.atKey_put_other (vlit_ne e)]

theorem VMap.look (h : VMap P K w b n f) {t : TypeId} (hk : P.underlying K = some (.int .i64)) (ht : P.underlying t = some (.map K E)) {z : Value} (hz : (zeroValue E).run P w = .ok z w) {key : Int} (hkw : (Lit.int .i64 key).wf = true) :
    (Instr.lookup t (.map (some b)) (.int .i64 key) true).run P w = .ok (.tuple #[(f key).getD z, .bool (f key).isSome]) w := by
  obtain ⟨D, hown, hf⟩ := h
  obtain ⟨v, ps, hrun, hv⟩ := hown.look_ok (int_keyed hk) ht hz (zd := .held z) (zp := []) rfl (keyOf_int_mk hk hkw)
  have e : D.atKey (.int .i64 key) (.held z) = .held v := by
    simp only [heldElem, Option.some.injEq, Prod.mk.injEq] at hv
    exact hv.1.symm
  have h1 := vmapAt_val e
  have h2 := vmapAt_isSome D key
  rw [hf key] at h1 h2
  rw [hrun, ← h1, ← h2]

theorem VMap.store (h : VMap P K w b n f) {t : TypeId} (hk : P.underlying K = some (.int .i64)) (ht : P.underlying t = some (.map K E)) (hn : n < maxLen) {key : Int} (v : Value) (hkw : (Lit.int .i64 key).wf = true) :
    ∃ w', (Instr.mapUpdate t (.map (some b)) (.int .i64 key) v).run P w = .ok () w' ∧ VMap P K w' b (n + 1) (fun j => if j = key then some v else f j) ∧ Chg [b] w w' := by
  obtain ⟨D, hown, hf⟩ := h
  obtain ⟨w', hrun, r1, r2⟩ := hown.store (int_keyed hk) ht hn (keyOf_int_mk hk hkw) (d := .held v) (ps := []) rfl
  refine ⟨w', hrun, ⟨_, r1, fun j => ?_⟩, (Chg.refl [b] w).grown r2.grown (fun k hk => .inl (by simp at hk; simp [hk]))⟩
  rw [vmapAt_put (VMap.isMap hown) ((int_keyed hk).key (keyOf_int_mk hk hkw)), hf j]
theorem wpList_update_vmap {ops : Array Oper} {rest : List Oper} {o : Oper} {a : Act} {Q : Exit → Act → World → Prop} (hg : o.guard = none) (m x v : Operand) (t : TypeId) (hop : o.op = Op.mapUpdate t m x v)
    (hk : P.underlying K = some (.int .i64)) (ht : P.underlying t = some (.map K E))
    (h : VMap P K w b n f) (hn : n < maxLen) (hm : a.eval m = .map (some b)) (key : Int) (val : Value) (hx : a.eval x = .int .i64 key) (hv : a.eval v = val) (hkw : (Lit.int .i64 key).wf = true)
    (hK : ∀ w', VMap P K w' b (n + 1) (fun j => if j = key then some val else f j) → Chg [b] w w' → wpList P ops Q rest (a.put o.dst undef) w') :
    wpList P ops Q (o :: rest) a w := by
  refine wpList_plain hg fun K' hK' => ?_
  obtain ⟨w', hrun, r1, r2⟩ := h.store hk ht hn val hkw
  unfold Oper.wp
  simp [execOp, hop, hm, hx, hv, hrun, Result.andThen]
  exact hK' _ _ (hK w' r1 r2)
end
end Go.Proofs.YtcpgbekcbaelpaaGreatDoor
