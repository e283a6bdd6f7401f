/- A row of numbers that is taken from at its head and appended to at its end. -/
import Derived.Test.YtlbiapgikkjooaaRh4
import Derived.Test.YtlbiapgikkjooaaRhB
import Derived.ArgAppend
import Derived.Deep.RegionLawGrows
namespace Go.Proofs.Ytlbiapgikkjooaa
open Go.RowKit Go.Maps Hp
set_option linter.unusedSimpArgs false
set_option linter.unusedSectionVars false
set_option linter.unusedVariables false

/-- The block that a slice lies in. -/
def vb (v : Value) : List Nat := match v with
  | .slice (some a) _ _ => [a.block]
  | _ => []
def QIs (w : World) (N : Nat) (v : Value) (l : List Int) : Prop :=
  ∃ ao cap, v = .slice ao l.length cap ∧ l.length ≤ cap ∧ cap ≤ maxLen ∧ (ao = none → l = [] ∧ cap = 0) ∧ ∀ a, ao = some a → ∃ b off, a = ⟨b, off, none⟩ ∧ N ≤ b ∧ b < w.heap.size ∧
    (∀ j x, l[j]? = some x → w.cell? ⟨b, off + j, none⟩ = some (.int .i64 x)) ∧ (∀ j, l.length ≤ j → j < cap → (w.cell? ⟨b, off + j, none⟩).isSome = true ∧ w.frozen? ⟨b, off + j, none⟩ = false)
theorem QIs.nil (w : World) (N : Nat) : QIs w N (.slice none 0 0) [] := ⟨none, 0, rfl, Nat.le_refl _, by unfold maxLen; omega, fun _ => ⟨rfl, rfl⟩, fun a h => by cases h⟩
theorem QIs.chg {w w' : World} {N : Nat} {v : Value} {l : List Int} {F : List Nat} (h : QIs w N v l) (hc : Chg F w w') (hF : ∀ k ∈ vb v, k ∉ F) : QIs w' N v l := by
  obtain ⟨ao, cap, rfl, h1, h2, h3, h4⟩ := h
  refine ⟨ao, cap, rfl, h1, h2, h3, fun a ha => ?_⟩
  obtain ⟨b, off, rfl, g1, g2, g3, g4⟩ := h4 a ha
  subst ha
  have hb : b ∉ F := hF b (by simp [vb])
  refine ⟨b, off, rfl, g1, Nat.lt_of_lt_of_le g2 hc.size, fun j x hj => (hc.cell (p := ⟨b, _, none⟩) g2 hb).trans (g3 j x hj), fun j hj hj2 => ?_⟩
  rw [hc.cell (p := ⟨b, _, none⟩) g2 hb, hc.frozen (p := ⟨b, _, none⟩) g2 hb]
  exact g4 j hj hj2
theorem QIs.vb_lt {w : World} {N : Nat} {v : Value} {l : List Int} (h : QIs w N v l) : ∀ k ∈ vb v, N ≤ k ∧ k < w.heap.size := fun k hk => by
  obtain ⟨ao, cap, rfl, h1, h2, h3, h4⟩ := h
  cases ao with
  | none => simp [vb] at hk
  | some a =>
    obtain ⟨b, off, rfl, g1, g2, _⟩ := h4 a rfl
    simp [vb] at hk
    subst hk
    exact ⟨g1, g2⟩
/-- What the append of one number leaves. -/
def QApp (w : World) (N : Nat) (v : Value) (l : List Int) (x : Int) (v' : Value) (w' : World) : Prop :=
  QIs w' N v' (l ++ [x]) ∧ Chg (vb v) w w' ∧ (∀ k ∈ vb v', k ∈ vb v ∨ w.heap.size ≤ k)
theorem run_qapp {w : World} {N : Nat} {v : Value} {l : List Int} (ty : TypeId) (h : QIs w N v l) (hN : N ≤ w.heap.size) {ad : Addr} {c : Nat} {x : Int} (hx : w.cell? ad = some (.int .i64 x)) (hsp : ad.spot = none) (h63 : l.length ≤ 1000000) :
    ∃ ao cap w', (Builtin.append_ #[44, 44] ty #[v, .slice (some ad) 1 c]).run Try.prog w = .ok (.slice ao (l.length + 1) cap) w' ∧ QApp w N v l x (.slice ao (l.length + 1) cap) w' := by
  obtain ⟨ao, cap, rfl, h1, h2, h3, h4⟩ := h
  obtain ⟨i0, hi, hz0, hz1, hz2⟩ := info_parts info3
  have hnews : ∀ j u, [Value.int .i64 x][j]? = some u → w.cell? (ad.add j) = some u := fun j u hj => by
    cases j with
    | zero =>
      rw [List.getElem?_cons_zero] at hj
      cases hj
      have : ad.add 0 = ad := by simp [Addr.add]
      rw [this]
      exact hx
    | succ j => simp at hj
  by_cases hroom : l.length + 1 ≤ cap
  · obtain ⟨a, rfl⟩ : ∃ a, ao = some a := by
      cases ao with
      | none => have := h3 rfl; omega
      | some a => exact ⟨a, rfl⟩
    obtain ⟨b, off, rfl, g1, g2, g3, g4⟩ := h4 a rfl
    have hs := g4 l.length (Nat.le_refl _) (by omega)
    have hrun := run_append_room_cells (P := Try.prog) w 44 ty 3 i0 Try.underlying44 hi b off l.length cap ad 1 c [.int .i64 x] (by rw [hz1]; rfl) hnews (by simp [Value.oneCell']) hroom
      (fun j hj => by simp at hj; subst hj; rw [hz1, Nat.mul_one, Nat.add_zero]; exact hs.1) (fun j hj => by simp at hj; subst hj; rw [hz1, Nat.mul_one, Nat.add_zero]; exact hs.2)
    rw [hz1, Nat.mul_one] at hrun
    have hw : w.setCells b (off + l.length) [.int .i64 x] = w.setCell ⟨b, off + l.length, none⟩ (.int .i64 x) := by simp [World.setCells]
    rw [hw] at hrun
    have hc : Chg [b] w (w.setCell ⟨b, off + l.length, none⟩ (.int .i64 x)) := chg_set w b _ _
    refine ⟨some ⟨b, off, none⟩, cap, _, hrun, ⟨_, cap, by rw [List.length_append]; rfl, by rw [List.length_append]; exact hroom, h2, (fun e => by cases e), fun a ha => ?_⟩, hc, fun k hk => .inl hk⟩
    cases ha
    refine ⟨b, off, rfl, g1, by simpa using g2, fun j y hj => ?_, fun j hj hj2 => ?_⟩
    · by_cases e : j = l.length
      · subst e
        rw [List.getElem?_append_right (Nat.le_refl _), Nat.sub_self] at hj
        cases hj
        obtain ⟨u, hu⟩ := Option.isSome_iff_exists.1 hs.1
        exact World.cell?_setCell_same _ _ _ hu
      · have hlt : j < l.length := by have := (List.getElem?_eq_some_iff.1 hj).1; simp at this; omega
        rw [List.getElem?_append_left hlt] at hj
        rw [World.cell?_setCell_other _ _ _ _ (by intro e; injection e; omega)]
        exact g3 j y hj
    · rw [List.length_append] at hj
      have := g4 j (by simp at hj; omega) hj2
      rw [World.cell?_setCell_other _ _ _ _ (by simp at hj; intro e; injection e; omega), World.frozen?_setCell]
      exact this
  · have hnone : ao = none → l.length = 0 ∧ cap = 0 := fun e => by obtain ⟨e1, e2⟩ := h3 e; rw [e1]; exact ⟨rfl, e2⟩
    have holds : ∀ b, ao = some b → ∀ j u, (ints l)[j]? = some u → w.cell? (b.add j) = some u := fun a ha j u hj => by
      obtain ⟨b, off, rfl, g1, g2, g3, g4⟩ := h4 a ha
      rw [ints_get] at hj
      obtain ⟨y, hy, rfl⟩ := Option.map_eq_some_iff.1 hj
      rw [Go.WideShapes.add_plain]
      exact g3 j y hy
    have hl : (ints l).length = l.length * 1 := by rw [ints_length, Nat.mul_one]
    have main : ∃ v' w', (Builtin.append_ #[44, 44] ty #[.slice ao l.length cap, .slice (some ad) 1 c]).run Try.prog w = .ok v' w' ∧ w'.ownsRow w.heap.size 3 1 v' (l.length + 1) (ints l ++ [.int .i64 x]) ∧ w.grownBy w' none := by
      cases ao with
      | some b =>
        obtain ⟨v', w', hrun, r1, r2⟩ := run_append_arg_grows (P := Try.prog) w 44 ty 3 i0 (.int .i64 0) 1 8 Try.underlying44 hi hz0 hz1 hz2 rfl (by omega) b l.length cap (ints l) hl (holds b rfl) ad 1 c [.int .i64 x] rfl hnews (by omega) (by unfold maxLen; omega) (by omega)
        exact ⟨v', w', hrun, r1, r2⟩
      | none =>
        obtain ⟨rfl, rfl⟩ := h3 rfl
        obtain ⟨v', w', hrun, r1, r2, _⟩ := run_append_own (P := Try.prog) w w.heap.size 44 ty 3 i0 (.int .i64 0) 1 8 Try.underlying44 hi hz0 hz1 hz2 rfl (by omega) (.slice none 0 0) 0 [] (World.ownsRow_nil w _ _ _) ad 1 c [.int .i64 x] rfl hnews (by simp [Value.oneCell']) (by unfold maxLen; omega) (by omega) (Nat.le_refl _)
        exact ⟨v', w', hrun, r1, r2⟩
    obtain ⟨v', w', hrun, r1, r2⟩ := main
    have hc : Chg [] w w' := Chg.grownNone r2
    rcases r1.2 with ⟨_, hn⟩ | ⟨g, cap', cur, rfl, hg1, hg2, hg3, hg4, hg5, hg6⟩
    · omega
    · have hcell : ∀ j, j < l.length + 1 → w'.cell? ⟨g, j, none⟩ = (ints l ++ [.int .i64 x])[j]? := fun j hj => World.ownsRow.cellAt r1 j (by simpa using hj)
      refine ⟨_, cap', w', hrun, ⟨_, cap', by rw [List.length_append]; rfl, by rw [List.length_append]; exact hg3, hg4, (fun e => by cases e), fun a ha => ?_⟩, hc.mono (by simp), fun k hk => .inr (by simp [vb] at hk; subst hk; exact hg1)⟩
      cases ha
      refine ⟨g, 0, rfl, Nat.le_trans hN hg1, (Array.getElem?_eq_some_iff.1 hg2).1, fun j y hj => ?_, fun j hj hj2 => ?_⟩
      · have hlt := (List.getElem?_eq_some_iff.1 hj).1
        rw [List.length_append] at hlt
        rw [Nat.zero_add, hcell j (by simpa using hlt)]
        have : (ints (l ++ [x]))[j]? = some (.int .i64 y) := by rw [ints_get, hj]; rfl
        rw [ints_append] at this
        exact this
      · rw [Nat.zero_add]
        refine ⟨?_, World.ownsRow.frozenAt r1 j⟩
        unfold World.cell?
        rw [hg2]
        have : j < cur.size := by rw [hg5]; omega
        simp [this]
theorem step_qapp {w : World} {ops : Array Oper} {o : Oper} {a : Act} {K : Act → World → Prop} {Q : Exit → Act → World → Prop} {E : Prop} (hgd : o.guard = none) (s x : Operand)
    (ho : o.op = .call { callee := .builtin .append, args := #[s, x], argTypes := #[44, 44] }) {N : Nat} {v : Value} {l : List Int} (hs : a.eval s = v) (hr : QIs w N v l) (hN : N ≤ w.heap.size) {ad : Addr} {c : Nat} {y : Int} (hxv : a.eval x = .slice (some ad) 1 c) (hx : w.cell? ad = some (.int .i64 y)) (hsp : ad.spot = none) (h63 : l.length ≤ 1000000)
    (h : ∀ ao cap w', QApp w N v l y (.slice ao (l.length + 1) cap) w' → K (a.put o.dst (.slice ao (l.length + 1) cap)) w') : if Region.wanted o (yielded ops a.tmps) = true then Oper.wp Try.prog o a w K Q else E := by
  have hw : Region.wanted o (yielded ops a.tmps) = true := by simp [Region.wanted, hgd]
  rw [if_pos hw]
  obtain ⟨ao, cap, w', h2, h3⟩ := run_qapp o.type hr hN hx hsp h63 (c := c)
  unfold Oper.wp execOp
  simp only [ho, resolve, invoke, builtin, Sem.run_bind, Sem.run_pure, Result.andThen_ok, List.map_toArray, List.map_cons, List.map_nil, hs, hxv, h2]
  exact h ao cap w' h3
theorem wpList_qapp {w : World} {ops : Array Oper} {rest : List Oper} {o : Oper} {a : Act} {Q : Exit → Act → World → Prop} (hgd : o.guard = none) (s x : Operand)
    (ho : o.op = .call { callee := .builtin .append, args := #[s, x], argTypes := #[44, 44] }) {N : Nat} {v : Value} {l : List Int} (hs : a.eval s = v) (hr : QIs w N v l) (hN : N ≤ w.heap.size) {ad : Addr} {c : Nat} {y : Int} (hxv : a.eval x = .slice (some ad) 1 c) (hx : w.cell? ad = some (.int .i64 y)) (hsp : ad.spot = none) (h63 : l.length ≤ 1000000)
    (h : ∀ ao cap w', QApp w N v l y (.slice ao (l.length + 1) cap) w' → wpList Try.prog ops Q rest (a.put o.dst (.slice ao (l.length + 1) cap)) w') : wpList Try.prog ops Q (o :: rest) a w := by
  refine wpList_plain hgd fun K hK => ?_
  obtain ⟨ao, cap, w', h2, h3⟩ := run_qapp o.type hr hN hx hsp h63 (c := c)
  unfold Oper.wp execOp
  simp only [ho, resolve, invoke, builtin, Sem.run_bind, Sem.run_pure, Result.andThen_ok, List.map_toArray, List.map_cons, List.map_nil, hs, hxv, h2]
  exact hK _ _ (h ao cap w' h3)
end Go.Proofs.Ytlbiapgikkjooaa
