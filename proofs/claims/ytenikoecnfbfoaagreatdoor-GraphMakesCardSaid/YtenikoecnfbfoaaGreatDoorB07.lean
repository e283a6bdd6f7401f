/- Texts of the proof, in build order: Mem. -/
import Derived.WalkKit
import Derived.Maps.AppendAt
import Derived.Maps.OwnOps
import Derived.Maps.OwnSet
import Derived.Maps.RangeWalk
import Derived.Deep.Draws
import Derived.KernelRfl
import Derived.StillTailTactics
import Derived.Deep.RegionHeld3
import Derived.Deep.AppendLies
/- Memory in plain words, over any program: what has turned between two worlds; rows of numbers; maps from numbers to numbers; ranging over such a map. -/
namespace Go.Proofs.YtenikoecnfbfoaaGreatDoor
open Go.RowKit Go.Maps
set_option linter.unusedSectionVars false
set_option linter.unusedSimpArgs false
set_option linter.unusedVariables false
open Go.ChangeMaps Go.MapKept Go.WideShapes
open Go.WideElems (Fit rd rg pl rd_key rd_val rg_of other_key)

/-- w' is w but for the blocks of F, and for new blocks. -/
structure Chg (F : List Nat) (w w' : World) : Prop where
  os : w'.os = w.os
  tape : w'.tape = w.tape
  output : w'.output = w.output
  size : w.heap.size ≤ w'.heap.size
  block : ∀ k, k < w.heap.size → k ∉ F → w'.heap[k]? = w.heap[k]?

/-- The blocks of F' are blocks of F, or new. -/
def Within (F F' : List Nat) (n : Nat) : Prop := ∀ k ∈ F', k ∈ F ∨ n ≤ k

theorem Chg.refl (F : List Nat) (w : World) : Chg F w w := ⟨rfl, rfl, rfl, Nat.le_refl _, fun _ _ _ => rfl⟩
theorem Chg.trans {F F' : List Nat} {a b c : World} (h : Chg F a b) (k : Chg F' b c) (hw : Within F F' a.heap.size) : Chg F a c :=
  ⟨k.os.trans h.os, k.tape.trans h.tape, k.output.trans h.output, Nat.le_trans h.size k.size, fun i hi hn =>
    (k.block i (Nat.lt_of_lt_of_le hi h.size) (fun e => by rcases hw i e with e | e; exact hn e; omega)).trans (h.block i hi hn)⟩
theorem Chg.mono {F F' : List Nat} {a b : World} (h : Chg F a b) (hs : ∀ k ∈ F, k ∈ F') : Chg F' a b :=
  ⟨h.os, h.tape, h.output, h.size, fun i hi hn => h.block i hi (fun e => hn (hs i e))⟩
theorem Chg.alloc {F : List Nat} {a b : World} (h : Chg F a b) (o : Obj) : Chg F a (b.alloc o) :=
  ⟨h.os, h.tape, h.output, by have := h.size; simp; omega, fun i hi hn => (Below.heap_alloc b o i (Nat.lt_of_lt_of_le hi h.size)).trans (h.block i hi hn)⟩
theorem Chg.drewN {F : List Nat} {a b : World} (h : Chg F a b) (n : Nat) : Chg F a (b.drewN n) := ⟨h.os, h.tape, h.output, h.size, h.block⟩
theorem Chg.grown {F : List Nat} {a b c : World} {row : Option Nat} (h : Chg F a b) (hg : b.grownBy c row) (hr : ∀ k, row = some k → k ∈ F ∨ a.heap.size ≤ k) : Chg F a c :=
  ⟨hg.os.trans h.os, hg.tape.trans h.tape, hg.output.trans h.output, Nat.le_trans h.size hg.size, fun i hi hn =>
    (hg.block i (Nat.lt_of_lt_of_le hi h.size) (fun e => by rcases hr i e.symm with e | e; exact hn e; omega)).trans (h.block i hi hn)⟩
theorem Chg.setCell {F : List Nat} {a b : World} (h : Chg F a b) {p : Addr} (hp : p.block ∈ F ∨ a.heap.size ≤ p.block) (u : Value) : Chg F a (b.setCell p u) :=
  ⟨h.os, h.tape, h.output, by have := h.size; simpa using this, fun i hi hn =>
    (Below.heap_setCell b p u i (fun e => by rcases hp with hp | hp; exact hn (e ▸ hp); omega)).trans (h.block i hi hn)⟩
theorem Chg.cell {F : List Nat} {w w' : World} (h : Chg F w w') {p : Addr} (hb : p.block < w.heap.size) (hp : p.block ∉ F) : w'.cell? p = w.cell? p := World.cell?_of_block (w := w) (h.block p.block hb hp)
theorem Chg.frozen {F : List Nat} {w w' : World} (h : Chg F w w') {p : Addr} (hb : p.block < w.heap.size) (hp : p.block ∉ F) : w'.frozen? p = w.frozen? p := World.frozen?_of_block (w := w) (h.block p.block hb hp)
theorem Chg.below {F : List Nat} {w w' : World} {B : Nat} (h : Chg F w w') (hB : B ≤ w.heap.size) (hF : ∀ k ∈ F, B ≤ k) : Below B w w' :=
  ⟨h.os, h.tape, h.output, h.size, fun k hk => h.block k (by omega) (fun e => by have := hF k e; omega)⟩
theorem Chg.grownNone {F : List Nat} {w w' : World} (h : w.grownBy w' none) : Chg F w w' := ⟨h.os, h.tape, h.output, h.size, fun k hk _ => h.block k hk (by simp)⟩

theorem Within.refl (F : List Nat) (n : Nat) : Within F F n := fun _ h => .inl h
theorem Within.trans {F F' F'' : List Nat} {n n' : Nat} (h : Within F F' n) (k : Within F' F'' n') (hn : n ≤ n') : Within F F'' n := fun i hi => by
  rcases k i hi with e | e
  · exact h i e
  · right; omega

/-- A slice of one-cell elements that nothing else shares: it is nil, or lies at the head of a block of its own. -/
def Row (w : World) (e : TypeId) (v : Value) (xs : List Value) : Prop := w.ownsRow 0 e 1 v xs.length xs

theorem Row.nil (w : World) (e : TypeId) : Row w e (.slice none 0 0) [] := World.ownsRow_nil w 0 e 1
theorem Row.lt {w : World} {e : TypeId} {v : Value} {xs : List Value} (h : Row w e v xs) {k : Nat} (hk : v.ownBlock = some k) : k < w.heap.size := (World.ownsRow.lt h k hk).2
theorem Row.chg {F : List Nat} {w w' : World} {e : TypeId} {v : Value} {xs : List Value} (h : Row w e v xs) (hc : Chg F w w') (hF : ∀ k, v.ownBlock = some k → k ∉ F) : Row w' e v xs := by
  refine ⟨h.1, ?_⟩
  rcases h.2 with hn | ⟨g, cap, cur, rfl, hb, hg, rest⟩
  · exact .inl hn
  · exact .inr ⟨g, cap, cur, rfl, hb, (hc.block g (Array.getElem?_eq_some_iff.1 hg).1 (hF g rfl)).trans hg, rest⟩
/-- What it looks like. -/
theorem Row.shape {w : World} {e : TypeId} {v : Value} {xs : List Value} (h : Row w e v xs) :
    (v = .slice none 0 0 ∧ xs = []) ∨ ∃ g cap, v = .slice (some ⟨g, 0, none⟩) xs.length cap ∧ xs.length ≤ cap ∧ cap ≤ maxLen ∧ g < w.heap.size := by
  rcases h.2 with ⟨hv, hn⟩ | ⟨g, cap, cur, hv, _, hg, hle, hm, _⟩
  · exact .inl ⟨hv, List.length_eq_zero_iff.1 hn⟩
  · exact .inr ⟨g, cap, hv, hle, hm, (Array.getElem?_eq_some_iff.1 hg).1⟩
/-- The same, in one form. -/
theorem Row.form {w : World} {e : TypeId} {v : Value} {xs : List Value} (h : Row w e v xs) :
    ∃ ao cap, v = .slice ao xs.length cap ∧ xs.length ≤ cap ∧ cap ≤ maxLen ∧ (ao = none → xs = [] ∧ cap = 0) ∧ (∀ a, ao = some a → ∃ g, a = ⟨g, 0, none⟩ ∧ g < w.heap.size) := by
  rcases h.shape with ⟨rfl, rfl⟩ | ⟨g, cap, rfl, h1, h2, h3⟩
  · exact ⟨none, 0, rfl, Nat.le_refl _, by unfold maxLen; omega, fun _ => ⟨rfl, rfl⟩, fun a h => by cases h⟩
  · exact ⟨_, cap, rfl, h1, h2, (by intro h; cases h), fun a h => by cases h; exact ⟨g, rfl, h3⟩⟩

theorem Row.cellAt {w : World} {e : TypeId} {g n cap : Nat} {xs : List Value} (h : Row w e (.slice (some ⟨g, 0, none⟩) n cap) xs) (j : Nat) (hj : j < xs.length) : w.cell? ⟨g, j, none⟩ = xs[j]? := by
  have hn : n = xs.length := by
    rcases h.2 with ⟨hv, _⟩ | ⟨_, _, _, hv, _⟩
    · cases hv
    · cases hv; rfl
  subst hn
  exact World.ownsRow.cellAt h j (by omega)
theorem Row.frozenAt {w : World} {e : TypeId} {g n cap : Nat} {xs : List Value} (h : Row w e (.slice (some ⟨g, 0, none⟩) n cap) xs) (j : Nat) : w.frozen? ⟨g, j, none⟩ = false := by
  have hn : n = xs.length := by
    rcases h.2 with ⟨hv, _⟩ | ⟨_, _, _, hv, _⟩
    · cases hv
    · cases hv; rfl
  subst hn
  exact World.ownsRow.frozenAt h j
theorem Row.stored {w : World} {e : TypeId} {g n cap : Nat} {xs : List Value} (h : Row w e (.slice (some ⟨g, 0, none⟩) n cap) xs) (j : Nat) (u : Value) : Row (w.setCell ⟨g, j, none⟩ u) e (.slice (some ⟨g, 0, none⟩) n cap) (xs.set j u) := by
  have hn : n = xs.length := by
    rcases h.2 with ⟨hv, _⟩ | ⟨_, _, _, hv, _⟩
    · cases hv
    · cases hv; rfl
  subst hn
  have := World.ownsRow.stored h j u
  unfold Row
  rw [List.length_set]
  exact this.1
/-- The first of its elements, in the same block. -/
theorem Row.take {w : World} {e : TypeId} {g n cap : Nat} {xs : List Value} (h : Row w e (.slice (some ⟨g, 0, none⟩) n cap) xs) (m : Nat) (hm : m ≤ xs.length) : Row w e (.slice (some ⟨g, 0, none⟩) m cap) (xs.take m) := by
  rcases h.2 with ⟨hv, _⟩ | ⟨g', cap', cur, hv, hb, hg, hle, hmx, hs, ht⟩
  · cases hv
  · cases hv
    have hl : (xs.take m).length = m := by rw [List.length_take]; omega
    refine ⟨by omega, .inr ⟨g, cap, cur, by rw [hl], hb, hg, by omega, hmx, hs, ?_⟩⟩
    rw [hl, Nat.mul_one]
    have e : cur.toList.take xs.length = xs := by rw [Nat.mul_one] at ht; exact ht
    have e2 : (cur.toList.take xs.length).take m = cur.toList.take m := by rw [List.take_take, Nat.min_eq_left hm]
    rw [← e2, e]

theorem Row.takeAny {w : World} {e : TypeId} {ao : Option Addr} {n cap : Nat} {xs : List Value} (h : Row w e (.slice ao n cap) xs) (m : Nat) (hm : m ≤ xs.length) : Row w e (.slice ao m cap) (xs.take m) := by
  cases ao with
  | none =>
    rcases h.2 with ⟨hv, hn⟩ | ⟨g', cap', cur, hv, _⟩
    · cases hv
      have : m = 0 := by omega
      subst this
      exact Row.nil w e
    · cases hv
  | some a =>
    rcases h.2 with ⟨hv, hn⟩ | ⟨g', cap', cur, hv, rest⟩
    · cases hv
    · cases hv
      exact Row.take h m hm
theorem ownBlock_slice (ao : Option Addr) (n m cap : Nat) : (Value.slice ao n cap).ownBlock = (Value.slice ao m cap).ownBlock := by cases ao <;> rfl

/-- 'append(s, ..)' of one element or more to a row: there is a row behind it, in the same block or in a new one. -/
theorem wpList_app {P : Program} (w : World) {ops : Array Oper} {rest : List Oper} {o : Oper} {a : Act} {Q : Exit → Act → World → Prop} (hgd : o.guard = none) (s x : Operand) (t : TypeId)
    (ho : o.op = .call { callee := .builtin .append, args := #[s, x], argTypes := #[t, t] })
    (e : TypeId) (z : Value) (bytes : Nat) (ht : P.underlying t = some (.slice e)) (hi : (P.info? e).map (fun i => (i.zero, i.size, i.bytes)) = some (some z, 1, bytes)) (hzs : z.cells.size = 1)
    (v : Value) (xs : List Value) (hs : a.eval s = v) (hr : Row w e v xs)
    (ad : Addr) (m c : Nat) (news : List Value) (hx : a.eval x = .slice (some ad) m c) (hm : 0 < m) (hl : news.length = m) (hnews : ∀ j u, news[j]? = some u → w.cell? (ad.add j) = some u) (h1 : ∀ u ∈ news, u.oneCell' = true)
    (h63 : xs.length + m ≤ 1099511627776) (hb : bytes ≤ 100)
    (h : ∀ g cap w', Row w' e (.slice (some ⟨g, 0, none⟩) (xs.length + m) cap) (xs ++ news) → w.grownBy w' v.ownBlock → (v.ownBlock = some g ∨ g = w.heap.size) → wpList P ops Q rest (a.put o.dst (.slice (some ⟨g, 0, none⟩) (xs.length + m) cap)) w') :
    wpList P ops Q (o :: rest) a w := by
  obtain ⟨i0, hi, hz0, hz1, hz2⟩ := info_parts hi
  have hby : (xs.length + m) * bytes ≤ 140737488355328 := Nat.le_trans (Nat.mul_le_mul h63 hb) (by decide)
  refine wpList_append_own_at w hgd s x t ho 0 e i0 z 1 bytes ht hi hz0 hz1 hz2 hzs (by decide) v xs.length xs hs hr ad m c news hx (by omega) hnews h1 (by unfold maxLen; omega) hby (by omega) ?_
  intro v' w' hown hg hnil hloc
  rcases hown.2 with ⟨hv, hn⟩ | ⟨g, cap, cur, hv, rest'⟩
  · omega
  · subst hv
    refine h g cap w' ?_ hg ?_
    · have e1 : (xs ++ news).length = xs.length + m := by rw [List.length_append, hl]
      unfold Row
      rw [e1]; exact hown
    · rcases hloc with h | h
      · exact .inl h.symm
      · simp [Value.ownBlock] at h; exact .inr h

/-- The same, at a step of a region that draws its order. -/
theorem step_app {P : Program} {w : World} {ops : Array Oper} {o : Oper} {a : Act} {K : Act → World → Prop} {Q : Exit → Act → World → Prop} {E : Prop} (hgd : o.guard = none) (s x : Operand) (t : TypeId)
    (ho : o.op = .call { callee := .builtin .append, args := #[s, x], argTypes := #[t, t] })
    (e : TypeId) (z : Value) (bytes : Nat) (ht : P.underlying t = some (.slice e)) (hi : (P.info? e).map (fun i => (i.zero, i.size, i.bytes)) = some (some z, 1, bytes)) (hzs : z.cells.size = 1)
    (v : Value) (xs : List Value) (hs : a.eval s = v) (hr : Row w e v xs)
    (ad : Addr) (m c : Nat) (news : List Value) (hx : a.eval x = .slice (some ad) m c) (hm : 0 < m) (hl : news.length = m) (hnews : ∀ j u, news[j]? = some u → w.cell? (ad.add j) = some u) (h1 : ∀ u ∈ news, u.oneCell' = true)
    (h63 : xs.length + m ≤ 1099511627776) (hb : bytes ≤ 100) (H : Nat) (hH : w.heap.size = H)
    (h : ∀ g cap w', Row w' e (.slice (some ⟨g, 0, none⟩) (xs.length + m) cap) (xs ++ news) → w.grownBy w' v.ownBlock → (v.ownBlock = some g ∨ g = H) → K (a.put o.dst (.slice (some ⟨g, 0, none⟩) (xs.length + m) cap)) w') :
    if Region.wanted o (yielded ops a.tmps) = true then Oper.wp P o a w K Q else E := by
  obtain ⟨i0, hi, hz0, hz1, hz2⟩ := info_parts hi
  have hby : (xs.length + m) * bytes ≤ 140737488355328 := Nat.le_trans (Nat.mul_le_mul h63 hb) (by decide)
  refine step_append_lies w hgd s x t ho 0 e i0 z 1 bytes ht hi hz0 hz1 hz2 hzs (by decide) v xs.length xs hs hr ad m c news hx (by omega) hnews h1 hm (by unfold maxLen; omega) hby (by omega) H hH ?_
  intro g cap w' hown hg hloc _
  refine h g cap w' ?_ hg hloc
  have e1 : (xs ++ news).length = xs.length + m := by rw [List.length_append, hl]
  unfold Row
  rw [e1]; exact hown

/-- A region that draws its order, all of it but its last operations, from the n-th on, only reading. -/
theorem region_tail {P : Program} {id : Nat} {Q : Exit → Act → World → Prop} {a : Act} {w : World} {l : List Oper} (n : Nat) (hm : P.follows .mixedOrders = true) (hB : Region.lexTailB .any l.toArray n = true)
    (h : wpStill P l.toArray w.drew (fun a' => wpList P l.toArray Q (l.drop n) a' w.drew) (l.take n) a) : (Code.region id l.toArray true).wp P Q a w :=
  wp_region_still_tail n hm hB h

/-! Maps from numbers to numbers -/

def mapAt (D : DataW Unit) (k : Int) : Option Int :=
  if Maps.has D (.int .i64 k) then some (match D.atKey (.int .i64 k) (.lit (.int .i64 0)) with | .lit (.int _ v) => v | _ => 0) else none

/-- Block b is a map that gives what f gives; at most n entries were laid. -/
def IMap (P : Program) (K E : TypeId) (w : World) (b n : Nat) (f : Int → Option Int) : Prop :=
  ∃ D, w.ownsMap (H := Unit) P K (plainElem P E) b n D ∧ ∀ k, mapAt D k = f k

/-- Underway: 'left k': is the entry at k still to come? -/
def IRange (P : Program) (K E : TypeId) (w : World) (b r n : Nat) (f : Int → Option Int) (left : Int → Bool) (cnt : Nat) : Prop :=
  ∃ D L, w.ranges (H := Unit) P K (plainElem P E) b r n D L cnt ∧ (∀ k, mapAt D k = f k) ∧ ∀ k, L (.int .i64 k) = left k

section
variable {P : Program} {K E : TypeId} {w : World} {b r n cnt : Nat} {f : Int → Option Int} {left : Int → Bool}

theorem IMap.lt (h : IMap P K E w b n f) : b < w.heap.size := by obtain ⟨D, h, _⟩ := h; exact h.lt
theorem IMap.chg {F : List Nat} {w' : World} (h : IMap P K E w b n f) (hc : Chg F w w') (hb : b ∉ F) : IMap P K E w' b n f := by
  obtain ⟨D, h, hf⟩ := h
  obtain ⟨es, clock, hb', rest⟩ := h
  exact ⟨D, ⟨es, clock, (hc.block b (Array.getElem?_eq_some_iff.1 hb').1 hb).trans hb', rest⟩, hf⟩
theorem IMap.made (w : World) : IMap P K E (w.alloc (.map #[] 0)) w.heap.size 0 (fun _ => none) :=
  ⟨.map [], World.ownsMap_made w P K _, fun k => by simp [mapAt, Maps.has]⟩
theorem IMap.mono (h : IMap P K E w b n f) {n' : Nat} (hn : n ≤ n') : IMap P K E w b n' f := by obtain ⟨D, h, hf⟩ := h; exact ⟨D, h.mono hn, hf⟩
theorem IMap.congr (h : IMap P K E w b n f) {f' : Int → Option Int} (he : ∀ k, f k = f' k) : IMap P K E w b n f' := by obtain ⟨D, h, hf⟩ := h; exact ⟨D, h, fun k => (hf k).trans (he k)⟩

theorem mapAt_isSome (D : DataW Unit) (k : Int) : (mapAt D k).isSome = Maps.has D (.int .i64 k) := by unfold mapAt; cases Maps.has D (.int .i64 k) <;> simp
theorem mapAt_val {D : DataW Unit} {k c : Int} (h : D.atKey (.int .i64 k) (.lit (.int .i64 0)) = .lit (.int .i64 c)) : (mapAt D k).getD 0 = c := by
  unfold mapAt
  cases hh : Maps.has D (.int .i64 k)
  · rw [Maps.atKey_of_not_has hh] at h
    simp at h ⊢
    exact h
  · rw [h]; simp
theorem lit_ne {a k : Int} (h : a ≠ k) : (Lit.int .i64 a) ≠ (Lit.int .i64 k) := fun e => h (by injection e)

theorem mapAt_put {D : DataW Unit} (hD : Maps.IsMap D) {k : Int} (hk : WideAt.IsKeyLit (.int .i64 k)) (v a : Int) : mapAt (D.put (.int .i64 k) (.lit (.int .i64 v))) a = if a = k then some v else mapAt D a := by
  unfold mapAt
  by_cases e : a = k
  · subst e
    rw [Maps.has_put_same hD hk, Maps.atKey_put_same hD hk]; simp
  · rw [if_neg e, Maps.has_put_other (lit_ne e), Maps.atKey_put_other (lit_ne e)]
theorem mapAt_del {D : DataW Unit} {k : Int} (a : Int) : mapAt (D.del (.int .i64 k)) a = if a = k then none else mapAt D a := by
  unfold mapAt
  by_cases e : a = k
  · subst e
    rw [Maps.has_del_same]; simp
  · rw [if_neg e, Maps.has_del_other (lit_ne e), Maps.atKey_del_other (lit_ne e)]

theorem IMap.isMap {D : DataW Unit} (h : w.ownsMap (H := Unit) P K (plainElem P E) b n D) : Maps.IsMap D := by
  obtain ⟨es, clock, _, _, _, hD⟩ := h; exact ⟨_, hD⟩

/-- v, ok := m[k] -/
theorem wpList_lookup_imap {ops : Array Oper} {rest : List Oper} {o : Oper} {a : Act} {Q : Exit → Act → World → Prop} (hg : o.guard = none) (m x : Operand) (t : TypeId) (hop : o.op = Op.lookup t m x true)
    (hk : P.underlying K = some (.int .i64)) (ht : P.underlying t = some (.map K E)) (he : P.underlying E = some (.int .i64)) (hz : (zeroValue E).run P w = .ok (.int .i64 0) w)
    (h : IMap P K E w b n f) (hm : a.eval m = .map (some b)) (key : Int) (hx : a.eval x = .int .i64 key) (hkw : (Lit.int .i64 key).wf = true)
    (hK : (∀ c, f key = some c → (Lit.int .i64 c).wf = true) → wpList P ops Q rest (a.put o.dst (.tuple #[.int .i64 ((f key).getD 0), .bool (f key).isSome])) w) :
    wpList P ops Q (o :: rest) a w := by
  obtain ⟨D, hown, hf⟩ := h
  refine wpList_lookup_own_ok_int w hg m x t hop K E .i64 (int_keyed hk) ht he hz b n D hm hown _ _ hx (keyOf_int_mk hk hkw) ?_
  intro c hat hwc
  have h1 := mapAt_val hat
  have h2 := mapAt_isSome D key
  rw [hf key] at h1 h2
  rw [← h1, ← h2]
  refine hK fun c' hc' => ?_
  rw [hc'] at h1
  simp at h1
  rw [h1]; exact hwc

/-- The same, as an equation on the run, for a region that only reads. -/
theorem IMap.look (h : IMap P K E w b n f) {t : TypeId} (hk : P.underlying K = some (.int .i64)) (ht : P.underlying t = some (.map K E)) (he : P.underlying E = some (.int .i64)) (hz : (zeroValue E).run P w = .ok (.int .i64 0) w) {key : Int} (hkw : (Lit.int .i64 key).wf = true) :
    (Instr.lookup t (.map (some b)) (.int .i64 key) true).run P w = .ok (.tuple #[.int .i64 ((f key).getD 0), .bool (f key).isSome]) w := by
  obtain ⟨D, hown, hf⟩ := h
  obtain ⟨v, ps, hrun, hv⟩ := hown.look_ok (int_keyed hk) ht hz (plainElem_int he (by decide)) (keyOf_int_mk hk hkw)
  obtain ⟨c, rfl, hc, hwc⟩ := plainElem_int_inv he hv
  have h1 := mapAt_val (congrArg Prod.fst hc)
  have h2 := mapAt_isSome D key
  rw [hf key] at h1 h2
  rw [hrun, ← h1, ← h2]

/-- m[k] = v -/
theorem wpList_update_imap {ops : Array Oper} {rest : List Oper} {o : Oper} {a : Act} {Q : Exit → Act → World → Prop} (hg : o.guard = none) (m x v : Operand) (t : TypeId) (hop : o.op = Op.mapUpdate t m x v)
    (hk : P.underlying K = some (.int .i64)) (ht : P.underlying t = some (.map K E)) (he : P.underlying E = some (.int .i64))
    (h : IMap P K E w b n f) (hn : n < maxLen) (hm : a.eval m = .map (some b)) (key val : Int) (hx : a.eval x = .int .i64 key) (hv : a.eval v = .int .i64 val) (hkw : (Lit.int .i64 key).wf = true) (hvw : (Lit.int .i64 val).wf = true)
    (hK : ∀ w', IMap P K E w' b (n + 1) (fun j => if j = key then some val else f j) → w.grownBy w' (some b) → wpList P ops Q rest (a.put o.dst undef) w') :
    wpList P ops Q (o :: rest) a w := by
  obtain ⟨D, hown, hf⟩ := h
  refine wpList_mapUpdate_own w hg m x v t hop K E (int_keyed hk) ht _ b n D hm hown hn _ _ _ hx hv (keyOf_int_mk hk hkw) _ [] (plainElem_int he hvw) ?_
  intro w' hown' hgr
  refine hK w' ⟨_, hown', fun j => ?_⟩ hgr
  rw [mapAt_put (IMap.isMap hown) ((int_keyed hk).key (keyOf_int_mk hk hkw)), hf j]

/-- delete(m, k) -/
theorem wpList_delete_imap {ops : Array Oper} {rest : List Oper} {o : Oper} {a : Act} {Q : Exit → Act → World → Prop} (hg : o.guard = none) (m x : Operand) (t : TypeId) (hop : o.op = Op.call { callee := Callee.builtin Builtin.delete, args := #[m, x], argTypes := #[t, K] })
    (hk : P.underlying K = some (.int .i64)) (ht : P.underlying t = some (.map K E))
    (h : IMap P K E w b n f) (hm : a.eval m = .map (some b)) (key : Int) (hx : a.eval x = .int .i64 key) (hkw : (Lit.int .i64 key).wf = true)
    (hK : ∀ w', IMap P K E w' b n (fun j => if j = key then none else f j) → w.grownBy w' (some b) → wpList P ops Q rest (a.put o.dst (.tuple #[])) w') :
    wpList P ops Q (o :: rest) a w := by
  obtain ⟨D, hown, hf⟩ := h
  refine wpList_delete_own w hg m x t K hop E (int_keyed hk) ht _ b n D hm hown _ _ hx (keyOf_int_mk hk hkw) ?_
  intro w' hown' hturn
  refine hK w' ⟨_, hown', fun j => ?_⟩ hturn.grown
  rw [mapAt_del, hf j]

/-! Ranging -/
theorem IRange.owns (h : IRange P K E w b r n f left cnt) : IMap P K E w b n f := by obtain ⟨D, L, h, hf, _⟩ := h; exact ⟨D, h.owns, hf⟩
theorem IRange.chg {F : List Nat} {w' : World} (h : IRange P K E w b r n f left cnt) (hc : Chg F w w') (hb : b ∉ F) (hr : r ∉ F) : IRange P K E w' b r n f left cnt := by
  obtain ⟨D, L, h, hf, hl⟩ := h
  have h1 := h.owns.lt
  have h2 := h.lt
  obtain ⟨es, clock, since, seen, c0, hb', F', hs, hD, hr', rest⟩ := h
  exact ⟨D, L, ⟨es, clock, since, seen, c0, (hc.block b h1 hb).trans hb', F', hs, hD, (hc.block r h2 hr).trans hr', rest⟩, hf, hl⟩
theorem IRange.left_eq (h : IRange P K E w b r n f left cnt) : w.rangeLeft b r = cnt := by obtain ⟨D, L, h, _⟩ := h; exact h.left_eq
theorem IRange.ne (h : IRange P K E w b r n f left cnt) : r ≠ b := by obtain ⟨D, L, h, _⟩ := h; exact h.ne
theorem IRange.lt (h : IRange P K E w b r n f left cnt) : r < w.heap.size := by obtain ⟨D, L, h, _⟩ := h; exact h.lt

theorem wpList_range_imap {ops : Array Oper} {rest : List Oper} {o : Oper} {a : Act} {Q : Exit → Act → World → Prop} (hg : o.guard = none) (m : Operand) (t : TypeId) (hop : o.op = Op.range t m)
    (hk : P.underlying K = some (.int .i64)) (ht : P.underlying t = some (.map K E)) (h : IMap P K E w b n f) (hm : a.eval m = .map (some b))
    (hK : ∀ w' cnt, IRange P K E w' b w.heap.size n f (fun k => (f k).isSome) cnt → w.grownBy w' none → w'.heap.size = w.heap.size + 1 → wpList P ops Q rest (a.put o.dst (.pointer (some ⟨w.heap.size, 0, none⟩))) w') :
    wpList P ops Q (o :: rest) a w := by
  obtain ⟨D, hown, hf⟩ := h
  refine wpList_range_own w hg m t hop K E (int_keyed hk) ht _ b n D hm hown ?_
  intro w' hrg hgr hsz
  exact hK w' _ ⟨D, _, hrg, hf, fun k => by rw [← mapAt_isSome, hf k]⟩ hgr hsz

theorem wpList_next_imap {ops : Array Oper} {rest : List Oper} {o : Oper} {a : Act} {Q : Exit → Act → World → Prop} (hg : o.guard = none) (it : Operand) (hop : o.op = Op.next it false)
    (hk : P.underlying K = some (.int .i64)) (he : P.underlying E = some (.int .i64)) (hit : a.eval it = .pointer (some ⟨r, 0, none⟩)) (h : IRange P K E w b r n f left cnt)
    (hDone : (∀ k, left k = false) → wpList P ops Q rest (a.put o.dst (.tuple #[.bool false])) w)
    (hMore : ∀ (x c : Int) (w' : World) (cnt' : Nat), (Lit.int .i64 x).wf = true → (Lit.int .i64 c).wf = true → left x = true → f x = some c → IRange P K E w' b r n f (fun z => left z && !(z == x)) cnt' → cnt' < cnt →
      w.grownBy w' (some r) → w'.heap.size = w.heap.size → (Instr.entry (.pointer (some ⟨r, 0, none⟩))).run P w' = .ok (.tuple #[.int .i64 x, .int .i64 c]) w' → wpList P ops Q rest (a.put o.dst (.tuple #[.bool true, .int .i64 x, .int .i64 c])) w') :
    wpList P ops Q (o :: rest) a w := by
  obtain ⟨D, L, hrg, hf, hl⟩ := h
  refine wpList_next_ranges_ii w hg it hop K E .i64 .i64 (int_keyed hk) hk he b r n D L cnt hit hrg ?_ ?_
  · intro _ hno
    exact hDone fun k => by rw [← hl k]; exact hno _
  · intro x c w' cnt' hwx hwc hlx hat hrg' hlt hgr hsz hen
    refine hMore x c w' cnt' hwx hwc (by rw [← hl x]; exact hlx) ?_ ⟨D, _, hrg', hf, fun k => ?_⟩ hlt hgr hsz hen
    · have h1 := mapAt_val (hat (.lit (.int .i64 0)))
      have h2 := mapAt_isSome D x
      rw [Maps.has_true_of_atKey hat, hf x] at h2
      rw [hf x] at h1
      cases hfx : f x with
      | none => rw [hfx] at h2; cases h2
      | some c' => rw [hfx] at h1; simp at h1; rw [h1]
    · rw [hl k]
      congr 2
      by_cases e : k = x
      · subst e; simp [WideAt.sameKey_self ((int_keyed hk).key (keyOf_int_mk hk hwx))]
      · rw [Maps.sameKey_ne (lit_ne e)]; simp [e]

/-- m[k] = v in the round, k being a key of the map. -/
theorem ranges_store {D : DataW Unit} {L : Lit → Bool} {t : TypeId} (hk : P.underlying K = some (.int .i64)) (ht : P.underlying t = some (.map K E)) (he : P.underlying E = some (.int .i64))
    (h : w.ranges (H := Unit) P K (plainElem P E) b r n D L cnt) (hn : n < maxLen) {key val : Int} (hkw : (Lit.int .i64 key).wf = true) (hvw : (Lit.int .i64 val).wf = true) (hhas : Maps.has D (.int .i64 key) = true) :
    ∃ w', (Instr.mapUpdate t (.map (some b)) (.int .i64 key) (.int .i64 val)).run P w = .ok () w' ∧ w'.ranges (H := Unit) P K (plainElem P E) b r n (D.put (.int .i64 key) (.lit (.int .i64 val))) L cnt ∧ w.grownBy w' (some b) ∧ w'.heap.size = w.heap.size := by
  have KD := int_keyed (P := P) hk
  have hkey := keyOf_int_mk (P := P) hk hkw
  have hv : plainElem (H := Unit) P E (.int .i64 val) = some (.lit (.int .i64 val), []) := plainElem_int he hvw
  have hne := h.ne
  obtain ⟨es, clock, since, seen, c0, hb, F, hs, rfl, hr, hold, hcnt, hl1, hl2, hsc, hsk⟩ := h
  obtain ⟨es', clock', hrun, F', hput, _, _, hwho⟩ := Maps.fit_store (R' := plainElem P E) KD ht hb F (Nat.lt_of_le_of_lt hs hn) (fun _ _ _ _ hz => hz) hkey hv
  rcases KD.find w hkey es.toList F.keys with ⟨h1, h2⟩ | ⟨j, e0, h1, h2, h3⟩
  · exfalso
    obtain ⟨p, hp, hpk⟩ := List.any_eq_true.1 hhas
    obtain ⟨x, hx, rfl⟩ := List.mem_map.1 (mem_sorted.1 hp)
    refine h2 x hx ?_
    obtain ⟨y, hy⟩ := F.reads x hx
    have e1 := WideAt.sameKey_eq hpk
    rw [rg_of hy] at e1
    exact KD.inj (e1 ▸ rd_key hy) hkey
  · have hj : es[j]? = some e0 := by simpa using h2
    have hrun2 : (Instr.mapUpdate t (.map (some b)) (.int .i64 key) (.int .i64 val)).run P w = .ok () (setBlock w b (.map (es.modify j (fun e' => { e' with key := .int .i64 key, val := .int .i64 val })) clock)) := by
      simp [Instr.mapUpdate, run_underlying ht, MapKept.run_getObj_map hb, KD.check w false hkey, h1, hj, h3, KD.stays w hkey, MapKept.run_setObj_map _ hb, Result.andThen, setBlock]
    have hsame : es' = es.modify j (fun e' => { e' with key := .int .i64 key, val := .int .i64 val }) ∧ clock' = clock := by
      rw [hrun] at hrun2
      injection hrun2 with _ hw
      have e1 := heap_setBlock_same hb (.map es' clock')
      rw [hw, heap_setBlock_same hb] at e1
      injection e1 with e1
      injection e1 with e1 e2
      exact ⟨e1.symm, e2.symm⟩
    obtain ⟨rfl, rfl⟩ := hsame
    have hlist : (es.modify j (fun e' => { e' with key := .int .i64 key, val := .int .i64 val })).toList = es.toList.set j { e0 with key := .int .i64 key, val := .int .i64 val } := by
      rw [Array.toList_modify, modify_eq_set _ _ _ _ h2]
    have hborn : (es.toList.set j { e0 with key := .int .i64 key, val := .int .i64 val }).map MapEntry.born = es.toList.map MapEntry.born := by
      apply List.ext_getElem?
      intro i
      rw [List.getElem?_map, List.getElem?_map]
      by_cases e : j = i
      · subst e
        rw [List.getElem?_set_self (List.getElem?_eq_some_iff.1 h2).1, h2]; rfl
      · rw [List.getElem?_set_ne e]
    have hmem : ∀ x ∈ es.toList.set j { e0 with key := .int .i64 key, val := .int .i64 val }, x ∈ es.toList ∨ (x.born = e0.born ∧ x.key = .int .i64 key) := fun x hx => by
      rcases List.mem_or_eq_of_mem_set hx with hx | rfl
      · exact .inl hx
      · exact .inr ⟨rfl, rfl⟩
    have he0 : e0 ∈ es.toList := List.mem_of_getElem? h2
    have hk0 : (rg P K (plainElem (H := Unit) P E) e0).1 = .int .i64 key := by
      obtain ⟨y, hy⟩ := F.reads e0 he0
      have := rd_key hy
      rw [h3, hkey] at this
      rw [rg_of hy]; exact (Option.some.inj this).symm
    have hrgk : ∀ x ∈ (es.modify j (fun e' => { e' with key := .int .i64 key, val := .int .i64 val })).toList, x.key = .int .i64 key → (rg P K (plainElem (H := Unit) P E) x).1 = .int .i64 key := fun x hx hxk => by
      obtain ⟨y, hy⟩ := F'.reads x hx
      have := rd_key hy
      rw [hxk, hkey] at this
      rw [rg_of hy]; exact (Option.some.inj this).symm
    refine ⟨_, hrun, ⟨_, clock', since, seen, c0, heap_setBlock_same hb _, F', by simpa using hs, by rw [DataW.put_eq, hput], (heap_setBlock_other hb _ hne).trans hr, ?_, ?_, ?_, ?_, hsc, hsk⟩, ⟨rfl, rfl, rfl, by simp [setBlock], fun i _ hi => heap_setBlock_other hb _ (fun e => hi (by rw [e]))⟩, by simp [setBlock]⟩
    · intro x hx
      rw [hlist] at hx
      rcases hmem x hx with hx | ⟨hx, _⟩
      · exact hold x hx
      · rw [hx]; exact hold e0 he0
    · rw [← hcnt]
      have e1 : ∀ a : Array MapEntry, (leftOf a seen).size = ((a.toList.map MapEntry.born).filter fun e => !seen.contains e).length := fun a => by
        unfold leftOf
        rw [← Array.length_toList, Array.toList_filter, List.filter_map, List.length_map]
        rfl
      rw [e1, e1, hlist, hborn]
    · intro x hx
      have hx0 := hx
      rw [hlist] at hx
      rcases hmem x hx with hx1 | ⟨hx1, hx2⟩
      · exact hl1 x hx1
      · rw [hrgk x hx0 hx2, hx1, ← hk0]; exact hl1 e0 he0
    · intro kl hkl
      obtain ⟨x, hx, rfl⟩ := hl2 kl hkl
      obtain ⟨i, hi⟩ := List.getElem?_of_mem hx
      by_cases e : j = i
      · subst e
        rw [h2] at hi; cases hi
        have hm : { e0 with key := .int .i64 key, val := .int .i64 val } ∈ (es.modify j (fun e' => { e' with key := .int .i64 key, val := .int .i64 val })).toList := by
          rw [hlist]; exact List.mem_of_getElem? (List.getElem?_set_self (List.getElem?_eq_some_iff.1 h2).1)
        exact ⟨_, hm, (hrgk _ hm rfl).trans hk0.symm⟩
      · refine ⟨x, ?_, rfl⟩
        rw [hlist]
        exact List.mem_of_getElem? ((List.getElem?_set_ne e).trans hi)

theorem wpList_store_imap {ops : Array Oper} {rest : List Oper} {o : Oper} {a : Act} {Q : Exit → Act → World → Prop} (hg : o.guard = none) (m x v : Operand) (t : TypeId) (hop : o.op = Op.mapUpdate t m x v)
    (hk : P.underlying K = some (.int .i64)) (ht : P.underlying t = some (.map K E)) (he : P.underlying E = some (.int .i64))
    (h : IRange P K E w b r n f left cnt) (hn : n < maxLen) (hm : a.eval m = .map (some b)) (key val : Int) (hx : a.eval x = .int .i64 key) (hv : a.eval v = .int .i64 val) (hkw : (Lit.int .i64 key).wf = true) (hvw : (Lit.int .i64 val).wf = true)
    (hhas : (f key).isSome = true)
    (hK : ∀ w', IRange P K E w' b r n (fun j => if j = key then some val else f j) left cnt → w.grownBy w' (some b) → w'.heap.size = w.heap.size → wpList P ops Q rest (a.put o.dst undef) w') :
    wpList P ops Q (o :: rest) a w := by
  obtain ⟨D, L, hrg, hf, hl⟩ := h
  obtain ⟨w', hrun, hrg', hgr, hsz⟩ := ranges_store hk ht he hrg hn hkw hvw (by rw [← mapAt_isSome, hf key]; exact hhas)
  refine wpList_plain hg fun K' hK' => ?_
  unfold Oper.wp
  simp [execOp, hop, hm, hx, hv, hrun, Result.andThen]
  refine hK' _ _ (hK w' ⟨_, L, hrg', fun j => ?_, hl⟩ hgr hsz)
  rw [mapAt_put (IMap.isMap hrg.owns) ((int_keyed hk).key (keyOf_int_mk hk hkw)), hf j]
end
end Go.Proofs.YtenikoecnfbfoaaGreatDoor
