/- Texts of the proof, in build order: Mem. -/
import Derived.WalkKit
import Derived.Maps.AppendAt
import Derived.Maps.OwnOps
import Derived.Maps.OwnSet
import Derived.Maps.RangeWalk
import Derived.Deep.Draws
import Derived.KernelRfl
import Derived.StillTailTactics
import Derived.Deep.RegionHeld3
import Derived.Deep.AppendLies
set_option linter.unusedVariables false
set_option linter.unusedSimpArgs false
set_option linter.unusedSectionVars false
/- Memory in plain words, over any program: what has turned between two worlds; rows of numbers; maps from numbers to numbers; ranging over such a map. -/
namespace Go.Proofs.YtcpgbekcbaelpaaGreatDoor
open Go.RowKit Go.Maps
set_option linter.unusedSectionVars false
set_option linter.unusedSimpArgs false
set_option linter.unusedVariables false
open Go.ChangeMaps Go.MapKept Go.WideShapes
open Go.WideElems (Fit rd rg pl rd_key rd_val rg_of other_key)

structure Chg (F : List Nat) (w w' : World) : Prop where
  os : w'.os = w.os
  tape : w'.tape = w.tape
  output : w'.output = w.output
  size : w.heap.size ≤ w'.heap.size
  block : ∀ k, k < w.heap.size → k ∉ F → w'.heap[k]? = w.heap[k]?

def Within (F F' : List Nat) (n : Nat) : Prop := ∀ k ∈ F', k ∈ F ∨ n ≤ k

theorem Chg.refl (F : List Nat) (w : World) : Chg F w w := ⟨rfl, rfl, rfl, Nat.le_refl _, fun _ _ _ => rfl⟩
theorem Chg.trans {F F' : List Nat} {a b c : World} (h : Chg F a b) (k : Chg F' b c) (hw : Within F F' a.heap.size) : Chg F a c :=
  ⟨k.os.trans h.os, k.tape.trans h.tape, k.output.trans h.output, Nat.le_trans h.size k.size, fun i hi hn =>
    (k.block i (Nat.lt_of_lt_of_le hi h.size) (fun e => by rcases hw i e with e | e; exact hn e; omega)).trans (h.block i hi hn)⟩
theorem Chg.mono {F F' : List Nat} {a b : World} (h : Chg F a b) (hs : ∀ k ∈ F, k ∈ F') : Chg F' a b :=
  ⟨h.os, h.tape, h.output, h.size, fun i hi hn => h.block i hi (fun e => hn (hs i e))⟩
theorem Chg.alloc {F : List Nat} {a b : World} (h : Chg F a b) (o : Obj) : Chg F a (b.alloc o) :=
  ⟨h.os, h.tape, h.output, by have := h.size; simp; omega, fun i hi hn => (Below.heap_alloc b o i (Nat.lt_of_lt_of_le hi h.size)).trans (h.block i hi hn)⟩
theorem Chg.drewN {F : List Nat} {a b : World} (h : Chg F a b) (n : Nat) : Chg F a (b.drewN n) := ⟨h.os, h.tape, h.output, h.size, h.block⟩
theorem Chg.grown {F : List Nat} {a b c : World} {row : Option Nat} (h : Chg F a b) (hg : b.grownBy c row) (hr : ∀ k, row = some k → k ∈ F ∨ a.heap.size ≤ k) : Chg F a c :=
  ⟨hg.os.trans h.os, hg.tape.trans h.tape, hg.output.trans h.output, Nat.le_trans h.size hg.size, fun i hi hn =>
    (hg.block i (Nat.lt_of_lt_of_le hi h.size) (fun e => by rcases hr i e.symm with e | e; exact hn e; omega)).trans (h.block i hi hn)⟩
theorem Chg.setCell {F : List Nat} {a b : World} (h : Chg F a b) {p : Addr} (hp : p.block ∈ F ∨ a.heap.size ≤ p.block) (u : Value) : Chg F a (b.setCell p u) :=
  ⟨h.os, h.tape, h.output, by have := h.size; simpa using this, fun i hi hn =>
    (Below.heap_setCell b p u i (fun e => by rcases hp with hp | hp; exact hn (e ▸ hp); omega)).trans (h.block i hi hn)⟩
theorem Chg.cell {F : List Nat} {w w' : World} (h : Chg F w w') {p : Addr} (hb : p.block < w.heap.size) (hp : p.block ∉ F) : w'.cell? p = w.cell? p := World.cell?_of_block (w := w) (h.block p.block hb hp)
theorem Chg.frozen {F : List Nat} {w w' : World} (h : Chg F w w') {p : Addr} (hb : p.block < w.heap.size) (hp : p.block ∉ F) : w'.frozen? p = w.frozen? p := World.frozen?_of_block (w := w) (h.block p.block hb hp)
theorem Chg.below {F : List Nat} {w w' : World} {B : Nat} (h : Chg F w w') (hB : B ≤ w.heap.size) (hF : ∀ k ∈ F, B ≤ k) : Below B w w' :=
  ⟨h.os, h.tape, h.output, h.size, fun k hk => h.block k (by omega) (fun e => by have := hF k e; omega)⟩
theorem Within.refl (F : List Nat) (n : Nat) : Within F F n := fun _ h => .inl h
theorem Within.trans {F F' F'' : List Nat} {n n' : Nat} (h : Within F F' n) (k : Within F' F'' n') (hn : n ≤ n') : Within F F'' n := fun i hi => by
  rcases k i hi with e | e
  · exact h i e
  · right; omega

def Row (w : World) (e : TypeId) (v : Value) (xs : List Value) : Prop := w.ownsRow 0 e 1 v xs.length xs

theorem Row.nil (w : World) (e : TypeId) : Row w e (.slice none 0 0) [] := World.ownsRow_nil w 0 e 1
theorem Row.lt {w : World} {e : TypeId} {v : Value} {xs : List Value} (h : Row w e v xs) {k : Nat} (hk : v.ownBlock = some k) : k < w.heap.size := (World.ownsRow.lt h k hk).2
theorem Row.chg {F : List Nat} {w w' : World} {e : TypeId} {v : Value} {xs : List Value} (h : Row w e v xs) (hc : Chg F w w') (hF : ∀ k, v.ownBlock = some k → k ∉ F) : Row w' e v xs := by
  refine ⟨h.1, ?_⟩
  rcases h.2 with hn | ⟨g, cap, cur, rfl, hb, hg, rest⟩
  · exact .inl hn
  · exact .inr ⟨g, cap, cur, rfl, hb, (hc.block g (Array.getElem?_eq_some_iff.1 hg).1 (hF g rfl)).trans hg, rest⟩
theorem Row.shape {w : World} {e : TypeId} {v : Value} {xs : List Value} (h : Row w e v xs) :
    (v = .slice none 0 0 ∧ xs = []) ∨ ∃ g cap, v = .slice (some ⟨g, 0, none⟩) xs.length cap ∧ xs.length ≤ cap ∧ cap ≤ maxLen ∧ g < w.heap.size := by
  rcases h.2 with ⟨hv, hn⟩ | ⟨g, cap, cur, hv, _, hg, hle, hm, _⟩
  · exact .inl ⟨hv, List.length_eq_zero_iff.1 hn⟩
  · exact .inr ⟨g, cap, hv, hle, hm, (Array.getElem?_eq_some_iff.1 hg).1⟩
theorem Row.form {w : World} {e : TypeId} {v : Value} {xs : List Value} (h : Row w e v xs) :
    ∃ ao cap, v = .slice ao xs.length cap ∧ xs.length ≤ cap ∧ cap ≤ maxLen ∧ (ao = none → xs = [] ∧ cap = 0) ∧ (∀ a, ao = some a → ∃ g, a = ⟨g, 0, none⟩ ∧ g < w.heap.size) := by
  rcases h.shape with ⟨rfl, rfl⟩ | ⟨g, cap, rfl, h1, h2, h3⟩
  · exact ⟨none, 0, rfl, Nat.le_refl _, by unfold maxLen; omega, fun _ => ⟨rfl, rfl⟩, fun a h => by cases h⟩
  · exact ⟨_, cap, rfl, h1, h2, (by intro h; cases h), fun a h => by cases h; exact ⟨g, rfl, h3⟩⟩

theorem Row.cellAt {w : World} {e : TypeId} {g n cap : Nat} {xs : List Value} (h : Row w e (.slice (some ⟨g, 0, none⟩) n cap) xs) (j : Nat) (hj : j < xs.length) : w.cell? ⟨g, j, none⟩ = xs[j]? := by
  have hn : n = xs.length := by
    rcases h.2 with ⟨hv, _⟩ | ⟨_, _, _, hv, _⟩
    · cases hv
    · cases hv; rfl
  subst hn
  exact World.ownsRow.cellAt h j (by omega)
theorem Row.frozenAt {w : World} {e : TypeId} {g n cap : Nat} {xs : List Value} (h : Row w e (.slice (some ⟨g, 0, none⟩) n cap) xs) (j : Nat) : w.frozen? ⟨g, j, none⟩ = false := by
  have hn : n = xs.length := by
    rcases h.2 with ⟨hv, _⟩ | ⟨_, _, _, hv, _⟩
    · cases hv
    · cases hv; rfl
  subst hn
  exact World.ownsRow.frozenAt h j
theorem Row.stored {w : World} {e : TypeId} {g n cap : Nat} {xs : List Value} (h : Row w e (.slice (some ⟨g, 0, none⟩) n cap) xs) (j : Nat) (u : Value) : Row (w.setCell ⟨g, j, none⟩ u) e (.slice (some ⟨g, 0, none⟩) n cap) (xs.set j u) := by
  have hn : n = xs.length := by
    rcases h.2 with ⟨hv, _⟩ | ⟨_, _, _, hv, _⟩
    · cases hv
    · cases hv; rfl
  subst hn
  have := World.ownsRow.stored h j u
  unfold Row
  rw [List.length_set]
  exact this.1
theorem Row.take {w : World} {e : TypeId} {g n cap : Nat} {xs : List Value} (h : Row w e (.slice (some ⟨g, 0, none⟩) n cap) xs) (m : Nat) (hm : m ≤ xs.length) : Row w e (.slice (some ⟨g, 0, none⟩) m cap) (xs.take m) := by
  rcases h.2 with ⟨hv, _⟩ | ⟨g', cap', cur, hv, hb, hg, hle, hmx, hs, ht⟩
  · cases hv
  · cases hv
    have hl : (xs.take m).length = m := by rw [List.length_take]; omega
    refine ⟨by omega, .inr ⟨g, cap, cur, by rw [hl], hb, hg, by omega, hmx, hs, ?_⟩⟩
    rw [hl, Nat.mul_one]
    have e : cur.toList.take xs.length = xs := by rw [Nat.mul_one] at ht; exact ht
    have e2 : (cur.toList.take xs.length).take m = cur.toList.take m := by rw [List.take_take, Nat.min_eq_left hm]
    rw [← e2, e]

theorem wpList_app {P : Program} (w : World) {ops : Array Oper} {rest : List Oper} {o : Oper} {a : Act} {Q : Exit → Act → World → Prop} (hgd : o.guard = none) (s x : Operand) (t : TypeId)
    (ho : o.op = .call { callee := .builtin .append, args := #[s, x], argTypes := #[t, t] })
    (e : TypeId) (z : Value) (bytes : Nat) (ht : P.underlying t = some (.slice e)) (hi : (P.info? e).map (fun i => (i.zero, i.size, i.bytes)) = some (some z, 1, bytes)) (hzs : z.cells.size = 1)
    (v : Value) (xs : List Value) (hs : a.eval s = v) (hr : Row w e v xs)
    (ad : Addr) (m c : Nat) (news : List Value) (hx : a.eval x = .slice (some ad) m c) (hm : 0 < m) (hl : news.length = m) (hnews : ∀ j u, news[j]? = some u → w.cell? (ad.add j) = some u) (h1 : ∀ u ∈ news, u.oneCell' = true)
    (h63 : xs.length + m ≤ 1099511627776) (hb : bytes ≤ 100)
    (h : ∀ g cap w', Row w' e (.slice (some ⟨g, 0, none⟩) (xs.length + m) cap) (xs ++ news) → w.grownBy w' v.ownBlock → (v.ownBlock = some g ∨ g = w.heap.size) → wpList P ops Q rest (a.put o.dst (.slice (some ⟨g, 0, none⟩) (xs.length + m) cap)) w') :
    wpList P ops Q (o :: rest) a w := by
  obtain ⟨i0, hi, hz0, hz1, hz2⟩ := info_parts hi
  have hby : (xs.length + m) * bytes ≤ 140737488355328 := Nat.le_trans (Nat.mul_le_mul h63 hb) (by decide)
  refine wpList_append_own_at w hgd s x t ho 0 e i0 z 1 bytes ht hi hz0 hz1 hz2 hzs (by decide) v xs.length xs hs hr ad m c news hx (by omega) hnews h1 (by unfold maxLen; omega) hby (by omega) ?_
  intro v' w' hown hg hnil hloc
  rcases hown.2 with ⟨hv, hn⟩ | ⟨g, cap, cur, hv, rest'⟩
  · omega
  · subst hv
    refine h g cap w' ?_ hg ?_
    · have e1 : (xs ++ news).length = xs.length + m := by rw [List.length_append, hl]
      unfold Row
      rw [e1]; exact hown
    · rcases hloc with h | h
      · exact .inl h.symm
      · simp [Value.ownBlock] at h; exact .inr h

theorem region_tail {P : Program} {id : Nat} {Q : Exit → Act → World → Prop} {a : Act} {w : World} {l : List Oper} (n : Nat) (hm : P.follows .mixedOrders = true) (hB : Region.lexTailB .any l.toArray n = true)
    (h : wpStill P l.toArray w.drew (fun a' => wpList P l.toArray Q (l.drop n) a' w.drew) (l.take n) a) : (Code.region id l.toArray true).wp P Q a w :=
  wp_region_still_tail n hm hB h

/-! Maps from numbers to numbers -/

def mapAt (D : DataW Unit) (k : Int) : Option Int :=
  if Maps.has D (.int .i64 k) then some (match D.atKey (.int .i64 k) (.lit (.int .i64 0)) with | .lit (.int _ v) => v | _ => 0) else none

def IMap (P : Program) (K E : TypeId) (w : World) (b n : Nat) (f : Int → Option Int) : Prop :=
  ∃ D, w.ownsMap (H := Unit) P K (plainElem P E) b n D ∧ ∀ k, mapAt D k = f k

def IRange (P : Program) (K E : TypeId) (w : World) (b r n : Nat) (f : Int → Option Int) (left : Int → Bool) (cnt : Nat) : Prop :=
  ∃ D L, w.ranges (H := Unit) P K (plainElem P E) b r n D L cnt ∧ (∀ k, mapAt D k = f k) ∧ ∀ k, L (.int .i64 k) = left k

section
variable {P : Program} {K E : TypeId} {w : World} {b r n cnt : Nat} {f : Int → Option Int} {left : Int → Bool}

theorem IMap.lt (h : IMap P K E w b n f) : b < w.heap.size := by obtain ⟨D, h, _⟩ := h; exact h.lt
theorem IMap.chg {F : List Nat} {w' : World} (h : IMap P K E w b n f) (hc : Chg F w w') (hb : b ∉ F) : IMap P K E w' b n f := by
  obtain ⟨D, h, hf⟩ := h
  obtain ⟨es, clock, hb', rest⟩ := h
  exact ⟨D, ⟨es, clock, (hc.block b (Array.getElem?_eq_some_iff.1 hb').1 hb).trans hb', rest⟩, hf⟩
theorem IMap.made (w : World) : IMap P K E (w.alloc (.map #[] 0)) w.heap.size 0 (fun _ => none) :=
  ⟨.map [], World.ownsMap_made w P K _, fun k => by simp [mapAt, Maps.has]⟩
theorem IMap.mono (h : IMap P K E w b n f) {n' : Nat} (hn : n ≤ n') : IMap P K E w b n' f := by obtain ⟨D, h, hf⟩ := h; exact ⟨D, h.mono hn, hf⟩
theorem IMap.congr (h : IMap P K E w b n f) {f' : Int → Option Int} (he : ∀ k, f k = f' k) : IMap P K E w b n f' := by obtain ⟨D, h, hf⟩ := h; exact ⟨D, h, fun k => (hf k).trans (he k)⟩

theorem mapAt_isSome (D : DataW Unit) (k : Int) : (mapAt D k).isSome = Maps.has D (.int .i64 k) := by unfold mapAt; cases Maps.has D (.int .i64 k) <;> simp
theorem mapAt_val {D : DataW Unit} {k c : Int} (h : D.atKey (.int .i64 k) (.lit (.int .i64 0)) = .lit (.int .i64 c)) : (mapAt D k).getD 0 = c := by
  unfold mapAt
  cases hh : Maps.has D (.int .i64 k)
  · rw [Maps.atKey_of_not_has hh] at h
    simp at h ⊢
    exact h
  · rw [h]; simp
theorem IMap.isMap {D : DataW Unit} (h : w.ownsMap (H := Unit) P K (plainElem P E) b n D) : Maps.IsMap D := by
  obtain ⟨es, clock, _, _, _, hD⟩ := h; exact ⟨_, hD⟩

theorem IMap.look (h : IMap P K E w b n f) {t : TypeId} (hk : P.underlying K = some (.int .i64)) (ht : P.underlying t = some (.map K E)) (he : P.underlying E = some (.int .i64)) (hz : (zeroValue E).run P w = .ok (.int .i64 0) w) {key : Int} (hkw : (Lit.int .i64 key).wf = true) :
    (Instr.lookup t (.map (some b)) (.int .i64 key) true).run P w = .ok (.tuple #[.int .i64 ((f key).getD 0), .bool (f key).isSome]) w := by
  obtain ⟨D, hown, hf⟩ := h
  obtain ⟨v, ps, hrun, hv⟩ := hown.look_ok (int_keyed hk) ht hz (plainElem_int he (by decide)) (keyOf_int_mk hk hkw)
  obtain ⟨c, rfl, hc, hwc⟩ := plainElem_int_inv he hv
  have h1 := mapAt_val (congrArg Prod.fst hc)
  have h2 := mapAt_isSome D key
  rw [hf key] at h1 h2
  rw [hrun, ← h1, ← h2]

/-! Ranging -/
theorem IRange.owns (h : IRange P K E w b r n f left cnt) : IMap P K E w b n f := by obtain ⟨D, L, h, hf, _⟩ := h; exact ⟨D, h.owns, hf⟩
theorem IRange.chg {F : List Nat} {w' : World} (h : IRange P K E w b r n f left cnt) (hc : Chg F w w') (hb : b ∉ F) (hr : r ∉ F) : IRange P K E w' b r n f left cnt := by
  obtain ⟨D, L, h, hf, hl⟩ := h
  have h1 := h.owns.lt
  have h2 := h.lt
  obtain ⟨es, clock, since, seen, c0, hb', F', hs, hD, hr', rest⟩ := h
  exact ⟨D, L, ⟨es, clock, since, seen, c0, (hc.block b h1 hb).trans hb', F', hs, hD, (hc.block r h2 hr).trans hr', rest⟩, hf, hl⟩
theorem IRange.ne (h : IRange P K E w b r n f left cnt) : r ≠ b := by obtain ⟨D, L, h, _⟩ := h; exact h.ne
theorem IRange.lt (h : IRange P K E w b r n f left cnt) : r < w.heap.size := by obtain ⟨D, L, h, _⟩ := h; exact h.lt

end
end Go.Proofs.YtcpgbekcbaelpaaGreatDoor
