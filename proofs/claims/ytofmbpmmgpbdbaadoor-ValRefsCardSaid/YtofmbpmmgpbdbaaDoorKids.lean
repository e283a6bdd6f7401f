/- A row of values that is being made. -/
import Derived.Test.YtofmbpmmgpbdbaaDoorVal
import Derived.Test.YtofmbpmmgpbdbaaDoorMemZ
namespace Go.Proofs.YtofmbpmmgpbdbaaDoor
open Go.RowKit Go.Maps

theorem infoV : (Tryd.prog.info? 24).map (fun i => (i.zero, i.size, i.bytes)) = some (some (.agg #[.int .i64 0, .int .i64 0, .string ⟨#[]⟩, .slice none 0 0]), 4, 56) := by kernel_rfl

def kcell (t : VT) (p : Option Addr × Nat) : List Value := [.int .i64 t.kind, .int .i64 t.num, .string t.text, .slice p.1 t.kids.length p.2]
def kcells : List VT → List (Option Addr × Nat) → List Value
  | t :: l, p :: ps => kcell t p ++ kcells l ps
  | _, _ => []
theorem kcells_length : ∀ {l : List VT} {ps : List (Option Addr × Nat)}, ps.length = l.length → (kcells l ps).length = l.length * 4
  | [], [], _ => rfl
  | t :: l, p :: ps, h => by
    simp only [List.length_cons] at h
    rw [kcells, List.length_append, kcells_length (by omega)]; simp [kcell]; omega
theorem kcells_get : ∀ {l : List VT} {ps : List (Option Addr × Nat)} {i r : Nat} {t : VT} {p : Option Addr × Nat}, l[i]? = some t → ps[i]? = some p → r < 4 → (kcells l ps)[i * 4 + r]? = (kcell t p)[r]?
  | [], _, _, _, _, _, h, _, _ => by cases h
  | _ :: _, [], _, _, _, _, _, h, _ => by cases h
  | t :: l, p :: ps, 0, r, u, q, h, h2, hr => by
    rw [List.getElem?_cons_zero] at h h2; cases h; cases h2
    rw [kcells, Nat.zero_mul, Nat.zero_add, List.getElem?_append_left (by simp [kcell]; omega)]
  | t :: l, p :: ps, i + 1, r, u, q, h, h2, hr => by
    rw [List.getElem?_cons_succ] at h h2
    rw [kcells, List.getElem?_append_right (by simp [kcell]; omega), show (i + 1) * 4 + r - (kcell t p).length = i * 4 + r by simp [kcell]; omega]
    exact kcells_get h h2 hr
theorem kcells_snoc : ∀ {l : List VT} {ps : List (Option Addr × Nat)} {t : VT} {p : Option Addr × Nat}, ps.length = l.length → kcells (l ++ [t]) (ps ++ [p]) = kcells l ps ++ kcell t p
  | [], [], _, _, _ => by simp [kcells]
  | t :: l, q :: ps, u, p, h => by
    simp only [List.length_cons] at h
    rw [List.cons_append, List.cons_append, kcells, kcells, kcells_snoc (by omega), List.append_assoc]

/-- The converse of 'KidsAt.get'. -/
theorem KidsAt.mk {w : World} {P : Nat → Prop} {ao : Option Addr} : ∀ {l : List VT} {j : Nat}, (∀ i t, l[i]? = some t → ∃ b off x0 x1 x2 x3, ao = some ⟨b, off, none⟩ ∧ P b ∧ w.cell? ⟨b, off + (j + i) * 4, none⟩ = some x0 ∧ w.cell? ⟨b, off + (j + i) * 4 + 1, none⟩ = some x1 ∧ w.cell? ⟨b, off + (j + i) * 4 + 2, none⟩ = some x2 ∧ w.cell? ⟨b, off + (j + i) * 4 + 3, none⟩ = some x3 ∧ ValIs w P t (.agg #[x0, x1, x2, x3])) → KidsAt w P l ao j
  | [], _, _ => by unfold KidsAt; trivial
  | t :: l, j, h => by
    unfold KidsAt
    refine ⟨?_, KidsAt.mk fun i u hu => ?_⟩
    · have := h 0 t rfl
      rwa [Nat.add_zero] at this
    · have := h (i + 1) u (by rw [List.getElem?_cons_succ]; exact hu)
      rwa [show j + (i + 1) = j + 1 + i by omega] at this

/-- v is a row of the values l, its block and all of theirs from base on; the row's block is none of theirs. -/
def KRow (w : World) (base : Nat) (v : Value) (l : List VT) : Prop :=
  ∃ ps : List (Option Addr × Nat), ps.length = l.length ∧ RowZ w 24 4 v l.length (kcells l ps) ∧ (∀ k, v.ownBlock = some k → base ≤ k) ∧
    ∀ (i : Nat) (t : VT) (p : Option Addr × Nat), l[i]? = some t → ps[i]? = some p → ValIs w (fun b => base ≤ b ∧ b < w.heap.size ∧ v.ownBlock ≠ some b) t (vval t p.1 p.2)

section
variable {w w' : World} {base : Nat} {v : Value} {l : List VT}
theorem KRow.nil (w : World) (base : Nat) : KRow w base (.slice none 0 0) [] := ⟨[], rfl, RowZ.nil _ _ _, fun k h => by simp [Value.ownBlock] at h, fun i t p h => by cases h⟩
/-- New blocks, and turns elsewhere. -/
theorem KRow.below (h : KRow w base v l) (hb : Below w.heap.size w w') : KRow w' base v l := by
  obtain ⟨ps, h1, h2, h3, h4⟩ := h
  refine ⟨ps, h1, h2.below hb (fun k hk => h2.lt hk), h3, fun i t p ht hp => ?_⟩
  exact ((h4 i t p ht hp).below hb (fun b hb => hb.2.1)).mono fun b hb' => ⟨hb'.1, Nat.lt_of_lt_of_le hb'.2.1 hb.size, hb'.2.2⟩
theorem KRow.kids (h : KRow w base v l) : ∃ ao cap, v = .slice ao l.length cap ∧ l.length ≤ cap ∧ cap ≤ maxLen ∧ (ao = none → cap = 0) ∧ KidsAt w (fun b => base ≤ b ∧ b < w.heap.size) l ao 0 := by
  obtain ⟨ps, h1, h2, h3, h4⟩ := h
  obtain ⟨ao, cap, rfl, hle, hm, hn, hs⟩ := h2.form
  refine ⟨ao, cap, rfl, hle, hm, fun e => (hn e).2, KidsAt.mk fun i t ht => ?_⟩
  have hil := (List.getElem?_eq_some_iff.1 ht).1
  obtain ⟨p, hp⟩ : ∃ p, ps[i]? = some p := ⟨_, List.getElem?_eq_getElem (by omega)⟩
  cases ao with
  | none => have := (hn rfl).1; omega
  | some a =>
    obtain ⟨g, rfl, hg, hgb⟩ := hs a rfl
    have hlen := kcells_length h1
    have c : ∀ r, r < 4 → w.cell? ⟨g, i * 4 + r, none⟩ = (kcell t p)[r]? := fun r hr => by
      rw [← kcells_get ht hp hr]
      exact h2.cellAt _ (by rw [hlen]; omega)
    refine ⟨g, 0, _, _, _, _, rfl, ⟨h3 g hgb, hg⟩, ?_, ?_, ?_, ?_, (h4 i t p ht hp).mono fun b hb => ⟨hb.1, hb.2.1⟩⟩
    · rw [Nat.zero_add, Nat.zero_add]; exact c 0 (by omega)
    · rw [Nat.zero_add, Nat.zero_add]; exact c 1 (by omega)
    · rw [Nat.zero_add, Nat.zero_add]; exact c 2 (by omega)
    · rw [Nat.zero_add, Nat.zero_add]; exact c 3 (by omega)
/-- Behind 'append(kids, k)': the new value's box is the block behind the heap. -/
theorem KRow.app {t : VT} {p : Option Addr × Nat} {o : Obj} {g cap : Nat} {ps : List (Option Addr × Nat)} (h1 : ps.length = l.length) (h3 : ∀ k, v.ownBlock = some k → base ≤ k ∧ k < w.heap.size) (hbase : base ≤ w.heap.size)
    (h4 : ∀ (i : Nat) (t : VT) (p : Option Addr × Nat), l[i]? = some t → ps[i]? = some p → ValIs w (fun b => base ≤ b ∧ b < w.heap.size ∧ v.ownBlock ≠ some b) t (vval t p.1 p.2))
    (ht : ValIs w (fun b => base ≤ b ∧ b < w.heap.size ∧ v.ownBlock ≠ some b) t (vval t p.1 p.2))
    (hr : RowZ w' 24 4 (.slice (some ⟨g, 0, none⟩) (l.length + 1) cap) (l.length + 1) (kcells l ps ++ kcell t p)) (hg : (w.alloc o).grownBy w' v.ownBlock) (hl : v.ownBlock = some g ∨ g = (w.alloc o).heap.size) :
    KRow w' base (.slice (some ⟨g, 0, none⟩) (l.length + 1) cap) (l ++ [t]) := by
  have hc : Chg v.ownBlock.toList w w' := ((Chg.refl _ w).alloc o).grown hg (fun k hk => .inl (by simp [hk]))
  have hsz := hc.size
  have hsz2 : w.heap.size + 1 ≤ w'.heap.size := by have := hg.size; simpa using this
  have hgl : g < w'.heap.size := hr.lt rfl
  have keep : ∀ {u : VT} {x : Value}, ValIs w (fun b => base ≤ b ∧ b < w.heap.size ∧ v.ownBlock ≠ some b) u x → ValIs w' (fun b => base ≤ b ∧ b < w'.heap.size ∧ (Value.slice (some ⟨g, 0, none⟩) (l.length + 1) cap).ownBlock ≠ some b) u x := fun hv =>
    (hv.chg hc (fun b hb => ⟨hb.2.1, by simpa using hb.2.2⟩)).mono fun b hb => ⟨hb.1, by omega, by
      simp only [Value.ownBlock, ne_eq, Option.some.injEq]
      rintro rfl
      rcases hl with e | e
      · exact hb.2.2 e
      · simp at e; omega⟩
  refine ⟨ps ++ [p], by simp [h1], ?_, fun k hk => ?_, fun i u q hu hq => ?_⟩
  · rw [kcells_snoc h1, List.length_append]; exact hr
  · simp only [Value.ownBlock, Option.some.injEq] at hk
    subst hk
    rcases hl with e | e
    · exact (h3 _ e).1
    · simp at e; omega
  · by_cases hi : i < l.length
    · rw [List.getElem?_append_left hi] at hu
      rw [List.getElem?_append_left (by omega)] at hq
      exact keep (h4 i u q hu hq)
    · have : i = l.length := by
        have := (List.getElem?_eq_some_iff.1 hu).1
        simp at this; omega
      subst this
      rw [List.getElem?_append_right (Nat.le_refl _), Nat.sub_self] at hu
      rw [List.getElem?_append_right (by omega), h1, Nat.sub_self] at hq
      cases hu; cases hq
      exact keep ht
end
end Go.Proofs.YtofmbpmmgpbdbaaDoor
