/- Rows whose elements have several cells. -/
import Derived.Test.YtlbiapgikkjooaaMem
import Derived.Deep.LoopGhost
import Derived.Lib.Hide
import Derived.Deep.QuietTactic
import Derived.BigQuiet
import Derived.Deep.RegionHeld3
import Derived.Deep.RegionLaw
import Derived.StillTailTactics
import Derived.IntWalk
namespace Go.Proofs.Ytlbiapgikkjooaa
open Go.RowKit Go.Maps
set_option linter.unusedSectionVars false
set_option linter.unusedSimpArgs false
set_option linter.unusedVariables false

/-- A slice of n elements of sz cells each, which nothing else shares: nil, or at the head of a block of its own. -/
def RowZ (w : World) (e : TypeId) (sz : Nat) (v : Value) (n : Nat) (xs : List Value) : Prop := w.ownsRow 0 e sz v n xs
theorem RowZ.nil (w : World) (e : TypeId) (sz : Nat) : RowZ w e sz (.slice none 0 0) 0 [] := World.ownsRow_nil w 0 e sz
theorem RowZ.lt {w : World} {e : TypeId} {sz n : Nat} {v : Value} {xs : List Value} (h : RowZ w e sz v n xs) {k : Nat} (hk : v.ownBlock = some k) : k < w.heap.size := (World.ownsRow.lt h k hk).2
theorem RowZ.chg {F : List Nat} {w w' : World} {e : TypeId} {sz n : Nat} {v : Value} {xs : List Value} (h : RowZ w e sz v n xs) (hc : Chg F w w') (hF : ∀ k, v.ownBlock = some k → k ∉ F) : RowZ w' e sz v n xs := by
  refine ⟨h.1, ?_⟩
  rcases h.2 with hn | ⟨g, cap, cur, rfl, hb, hg, rest⟩
  · exact .inl hn
  · exact .inr ⟨g, cap, cur, rfl, hb, (hc.block g (Array.getElem?_eq_some_iff.1 hg).1 (hF g rfl)).trans hg, rest⟩
/-- Blocks below N stay: the row lies there. -/
theorem RowZ.below {w w' : World} {N : Nat} {e : TypeId} {sz n : Nat} {v : Value} {xs : List Value} (h : RowZ w e sz v n xs) (hb : Below N w w') (hF : ∀ k, v.ownBlock = some k → k < N) : RowZ w' e sz v n xs := by
  refine ⟨h.1, ?_⟩
  rcases h.2 with hn | ⟨g, cap, cur, rfl, hb', hg, rest⟩
  · exact .inl hn
  · exact .inr ⟨g, cap, cur, rfl, hb', (hb.block g (hF g rfl)).trans hg, rest⟩
theorem Chg.thenBelow {F : List Nat} {a b c : World} (h : Chg F a b) (k : Below a.heap.size b c) : Chg F a c :=
  ⟨k.os.trans h.os, k.tape.trans h.tape, k.output.trans h.output, Nat.le_trans h.size k.size, fun i hi hn => (k.block i hi).trans (h.block i hi hn)⟩
/-- What it looks like. -/
theorem RowZ.form {w : World} {e : TypeId} {sz n : Nat} {v : Value} {xs : List Value} (h : RowZ w e sz v n xs) :
    ∃ ao cap, v = .slice ao n cap ∧ n ≤ cap ∧ cap ≤ maxLen ∧ (ao = none → n = 0 ∧ cap = 0) ∧ (∀ a, ao = some a → ∃ g, a = ⟨g, 0, none⟩ ∧ g < w.heap.size ∧ v.ownBlock = some g) := by
  rcases h.2 with ⟨rfl, hn⟩ | ⟨g, cap, cur, rfl, _, hg, hle, hm, _⟩
  · subst hn
    exact ⟨none, 0, rfl, Nat.le_refl _, by unfold maxLen; omega, fun _ => ⟨rfl, rfl⟩, fun a h => by cases h⟩
  · exact ⟨_, cap, rfl, hle, hm, (by intro h; cases h), fun a h => by cases h; exact ⟨g, rfl, (Array.getElem?_eq_some_iff.1 hg).1, rfl⟩⟩
theorem RowZ.cellAt {w : World} {e : TypeId} {g n cap sz : Nat} {xs : List Value} (h : RowZ w e sz (.slice (some ⟨g, 0, none⟩) n cap) n xs) (j : Nat) (hj : j < xs.length) : w.cell? ⟨g, j, none⟩ = xs[j]? :=
  World.ownsRow.cellAt h j (by have := h.1; omega)

/-- 'append(s, ..)' of one element or more to such a row. -/
theorem wpList_appz {P : Program} (w : World) {ops : Array Oper} {rest : List Oper} {o : Oper} {a : Act} {Q : Exit → Act → World → Prop} (hgd : o.guard = none) (s x : Operand) (t : TypeId)
    (ho : o.op = .call { callee := .builtin .append, args := #[s, x], argTypes := #[t, t] })
    (e : TypeId) (z : Value) (sz bytes : Nat) (ht : P.underlying t = some (.slice e)) (hi : (P.info? e).map (fun i => (i.zero, i.size, i.bytes)) = some (some z, sz, bytes)) (hzs : z.cells.size = sz) (hsz : 0 < sz)
    (v : Value) (n : Nat) (xs : List Value) (hs : a.eval s = v) (hr : RowZ w e sz v n xs)
    (ad : Addr) (m c : Nat) (news : List Value) (hx : a.eval x = .slice (some ad) m c) (hm : 0 < m) (hl : news.length = m * sz) (hnews : ∀ j u, news[j]? = some u → w.cell? (ad.add j) = some u) (h1 : ∀ u ∈ news, u.oneCell' = true)
    (h63 : n + m ≤ 1099511627776) (hb : bytes ≤ 100)
    (h : ∀ g cap w', RowZ w' e sz (.slice (some ⟨g, 0, none⟩) (n + m) cap) (n + m) (xs ++ news) → w.grownBy w' v.ownBlock → (v.ownBlock = some g ∨ g = w.heap.size) → wpList P ops Q rest (a.put o.dst (.slice (some ⟨g, 0, none⟩) (n + m) cap)) w') :
    wpList P ops Q (o :: rest) a w := by
  obtain ⟨i0, hi, hz0, hz1, hz2⟩ := info_parts hi
  have hby : (n + m) * bytes ≤ 140737488355328 := Nat.le_trans (Nat.mul_le_mul h63 hb) (by decide)
  refine wpList_append_own_at w hgd s x t ho 0 e i0 z sz bytes ht hi hz0 hz1 hz2 hzs hsz v n xs hs hr ad m c news hx hl hnews h1 (by unfold maxLen; omega) hby (by omega) ?_
  intro v' w' hown hg hnil hloc
  rcases hown.2 with ⟨hv, hn⟩ | ⟨g, cap, cur, hv, rest'⟩
  · omega
  · subst hv
    refine h g cap w' hown hg ?_
    rcases hloc with h | h
    · exact .inl h.symm
    · simp [Value.ownBlock] at h; exact .inr h
end Go.Proofs.Ytlbiapgikkjooaa
