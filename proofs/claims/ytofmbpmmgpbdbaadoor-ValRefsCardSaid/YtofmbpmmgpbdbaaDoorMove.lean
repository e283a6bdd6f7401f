/- A value that names other objects: the program's move. -/
import Derived.Test.YtofmbpmmgpbdbaaDoorRefs
import Derived.Test.YtofmbpmmgpbdbaaDoorSlim
import Derived.ArgAppend
namespace Go.Proofs.YtofmbpmmgpbdbaaDoor
open Go.RowKit Go.Maps Wr
set_option linter.unusedVariables false

namespace VT
mutual
def move (f : Int → Option Int) : VT → Option VT
  | node k n s l => match (if k = 5 then f n else some n) with
    | none => none
    | some n' => match moves f l with
      | none => none
      | some l' => some (node k n' s l')
def moves (f : Int → Option Int) : List VT → Option (List VT)
  | [] => some []
  | t :: l => match move f t with
    | none => none
    | some t' => match moves f l with
      | none => none
      | some l' => some (t' :: l')
end
theorem moves_nil (f : Int → Option Int) : moves f [] = some [] := by rw [moves]
theorem moves_none {f : Int → Option Int} {t : VT} (l : List VT) (h : move f t = none) : moves f (t :: l) = none := by rw [moves, h]
theorem moves_some {f : Int → Option Int} {t t' : VT} (l : List VT) (h : move f t = some t') : moves f (t :: l) = (moves f l).map (t' :: ·) := by rw [moves, h]; cases moves f l <;> rfl
theorem moves_len {f : Int → Option Int} : ∀ {l l' : List VT}, moves f l = some l' → l'.length = l.length
  | [], l', h => by rw [moves_nil] at h; cases h; rfl
  | t :: l, l', h => by
    cases hm : move f t with
    | none => rw [moves_none l hm] at h; cases h
    | some t' =>
      rw [moves_some l hm] at h
      cases hl : moves f l with
      | none => rw [hl] at h; cases h
      | some l2 => rw [hl] at h; cases h; simp [moves_len hl]
end VT

/-- The cells of a row of kids. -/
theorem KidsAt.row {w : World} {P : Nat → Prop} {b off : Nat} : ∀ {l : List VT} {j : Nat}, KidsAt w P l (some ⟨b, off, none⟩) j → ∃ ps : List (Option Addr × Nat), ps.length = l.length ∧ (∀ i u, (kcells l ps)[i]? = some u → w.cell? ⟨b, off + j * 4 + i, none⟩ = some u) ∧
    ∀ (i : Nat) (t : VT) (p : Option Addr × Nat), l[i]? = some t → ps[i]? = some p → ValIs w P t (vval t p.1 p.2)
  | [], j, _ => ⟨[], rfl, (fun i u h => by simp [kcells] at h), (fun i t p h => by cases h)⟩
  | t :: l, j, h => by
    have hc := h.cells (i := 0) rfl
    obtain ⟨_, ao, cap, c0, c1, c2, c3, hv⟩ := hc
    rw [Nat.add_zero] at c0 c1 c2 c3
    unfold KidsAt at h
    obtain ⟨ps, h1, h2, h3⟩ := h.2.row
    refine ⟨(ao, cap) :: ps, by simp [h1], fun i u hu => ?_, fun i u p hu hp => ?_⟩
    · rw [kcells] at hu
      by_cases hi : i < 4
      · rw [List.getElem?_append_left (by simpa [kcell] using hi)] at hu
        have : i = 0 ∨ i = 1 ∨ i = 2 ∨ i = 3 := by omega
        rcases this with rfl | rfl | rfl | rfl
        · simp [kcell] at hu; subst hu; exact c0
        · simp [kcell] at hu; subst hu; exact c1
        · simp [kcell] at hu; subst hu; exact c2
        · simp [kcell] at hu; subst hu; exact c3
      · rw [List.getElem?_append_right (by simp [kcell]; omega)] at hu
        have := h2 _ u hu
        rw [show off + (j + 1) * 4 + (i - (kcell t (ao, cap)).length) = off + j * 4 + i by simp [kcell]; omega] at this
        exact this
    · cases i with
      | zero =>
        rw [List.getElem?_cons_zero] at hu hp
        cases hu; cases hp
        exact hv
      | succ i =>
        rw [List.getElem?_cons_succ] at hu hp
        exact h3 i u p hu hp
theorem kcells_set : ∀ {l : List VT} {ps : List (Option Addr × Nat)} {i : Nat} (t : VT) (p : Option Addr × Nat), ps.length = l.length → i < l.length →
    (((((kcells l ps).set (i * 4) (.int .i64 t.kind)).set (i * 4 + 1) (.int .i64 t.num)).set (i * 4 + 2) (.string t.text)).set (i * 4 + 3) (.slice p.1 t.kids.length p.2)) = kcells (l.set i t) (ps.set i p)
  | [], _, i, t, p, _, h => by simp at h
  | u :: l, [], i, t, p, h, _ => by simp at h
  | u :: l, q :: ps, 0, t, p, h, _ => by simp [kcells, kcell]
  | u :: l, q :: ps, i + 1, t, p, h, hi => by
    simp only [List.length_cons] at h hi
    have ih := kcells_set (i := i) t p (show ps.length = l.length by omega) (by omega)
    have e : ∀ (xs : List Value) (j : Nat) (v : Value), (kcell u q ++ xs).set (4 + j) v = kcell u q ++ xs.set j v := fun xs j v => by
      rw [List.set_append, if_neg (by simp [kcell])]
      simp [kcell]
    rw [List.set_cons_succ, List.set_cons_succ, kcells, kcells, ← ih]
    rw [show (i + 1) * 4 = 4 + i * 4 by omega, show 4 + i * 4 + 1 = 4 + (i * 4 + 1) by omega, show 4 + i * 4 + 2 = 4 + (i * 4 + 2) by omega, show 4 + i * 4 + 3 = 4 + (i * 4 + 3) by omega, e, e, e, e]

theorem kcells_one : ∀ (l : List VT) (ps : List (Option Addr × Nat)), ∀ u ∈ kcells l ps, u.oneCell' = true
  | [], _, u, h => by simp [kcells] at h
  | _ :: _, [], u, h => by simp [kcells] at h
  | t :: l, p :: ps, u, h => by
    rw [kcells, List.mem_append] at h
    rcases h with h | h
    · exact kcell_one t p u h
    · exact kcells_one l ps u h
/-- A row of values of its own at the block g. -/
def MRow (w : World) (Q : Nat → Prop) (g cap : Nat) (l : List VT) : Prop :=
  ∃ ps : List (Option Addr × Nat), ps.length = l.length ∧ RowZ w 24 4 (.slice (some ⟨g, 0, none⟩) l.length cap) l.length (kcells l ps) ∧ ∀ (i : Nat) (t : VT) (p : Option Addr × Nat), l[i]? = some t → ps[i]? = some p → ValIs w (fun b => Q b ∧ b < w.heap.size ∧ b ≠ g) t (vval t p.1 p.2)
def CloneEnd (w : World) (P : Nat → Prop) (l : List VT) (e : Ending) (w' : World) : Prop :=
  Below w.heap.size w w' ∧ ((l = [] ∧ e = .returned (.slice none 0 0)) ∨ ∃ g cap, e = .returned (.slice (some ⟨g, 0, none⟩) l.length cap) ∧ w.heap.size ≤ g ∧ MRow w' P g cap l)
set_option maxRecDepth 100000 in
theorem kclone_any (l : List VT) (ao : Option Addr) (cap : Nat) (w : World) (P : Nat → Prop) (h1 : l.length ≤ cap) (h2 : cap ≤ maxLen) (h3 : l.length ≤ 1000000) (h0 : ao = none → cap = 0) (hk : KidsAt w P l ao 0) (hP : ∀ b, P b → b < w.heap.size) :
    Calls Tryd.prog 63 #[.slice ao l.length cap] w (CloneEnd w P l) := by
  cases ao with
  | none =>
    have hc := h0 rfl
    subst hc
    have hb : l = [] := List.length_eq_zero_iff.1 (by omega)
    subst hb
    clear hk h0 h1 h2 h3
    have he : ∀ w : World, (binOp .eql 22 (.slice none 0 0) (.slice none 0 0)).run Tryd.prog w = .ok (.bool true) w := fun _ => rfl
    go_enter Tryd.func63, Tryd.ntmps63
    go_wp2
    go_ret
    exact ⟨Below.refl _ _, .inl ⟨rfl, rfl⟩⟩
  | some A =>
    obtain ⟨i0, hi, hz0, hz1, hz2⟩ := info_parts infoV
    have hown0 : (w.alloc (.cells #[] 24)).ownsRow w.heap.size 24 4 (.slice (some ⟨w.heap.size, 0, none⟩) 0 0) 0 [] :=
      ⟨rfl, .inr ⟨w.heap.size, 0, #[], rfl, Nat.le_refl _, by show (w.heap.push _)[w.heap.size]? = _; simp, Nat.le_refl _, by unfold maxLen; omega, rfl, rfl⟩⟩
    have he : ∀ w : World, (binOp .eql 22 (.slice (some A) l.length cap) (.slice none 0 0)).run Tryd.prog w = .ok (.bool false) w := fun _ => rfl
    obtain ⟨ps, k1, k2, k3⟩ : ∃ ps : List (Option Addr × Nat), ps.length = l.length ∧ (∀ i u, (kcells l ps)[i]? = some u → w.cell? (A.add i) = some u) ∧ ∀ (i : Nat) (t : VT) (p : Option Addr × Nat), l[i]? = some t → ps[i]? = some p → ValIs w P t (vval t p.1 p.2) := by
      cases l with
      | nil => exact ⟨[], rfl, (fun i u h => by simp [kcells] at h), (fun i t p h => by cases h)⟩
      | cons t l =>
        obtain ⟨b, off, _, _, _, _, e, _⟩ := hk.get (i := 0) rfl
        cases e
        obtain ⟨ps, k1, k2, k3⟩ := hk.row
        refine ⟨ps, k1, fun i u hu => ?_, k3⟩
        have := k2 i u hu
        rw [Nat.zero_mul, Nat.add_zero] at this
        rw [show (Addr.add ⟨b, off, none⟩ i) = ⟨b, off + i, none⟩ by unfold Addr.add; split <;> simp_all]
        exact this
    have K1 := Lib.hid k1
    have K2 := Lib.hid k2
    have K3 := Lib.hid k3
    have hcl := kcells_length k1
    have HCL := Lib.hid hcl
    have hone : ∀ u ∈ kcells l ps, u.oneCell' = true := kcells_one l ps
    clear hk k1 k2 k3 hcl
    unfold maxLen at h2
    go_enter Tryd.func63, Tryd.ntmps63
    go_wp2_with (at_builtin; refine wpList_append_own _ rfl (.tmp 5) (.tmp 6) 22 rfl w.heap.size 24 i0 _ 4 56 Tryd.underlying22 hi hz0 hz1 hz2 rfl (by decide) _ _ _ rfl hown0 A l.length cap (kcells l ps) rfl (by rw [HCL.out]) ?c1 hone (by unfold maxLen; omega) (by omega) (by simp) ?_)
    case c1 =>
      intro j u hu
      have hc := K2.out j u hu
      have hb : (A.add j).block < w.heap.size := World.block_lt_of_cell? _ _ hc
      rw [((Below.refl w.heap.size w).alloc (Nat.le_refl _) _).cell hb, hc]
    intro v' w1 hown' hgrow hnil
    have hB : Below w.heap.size w w1 := ((Below.refl _ _).alloc (Nat.le_refl _) _).grown hgrow (by simp) (fun k hk => by simp [Value.ownBlock] at hk; omega)
    go_wp2
    go_ret
    refine ⟨hB, .inr ?_⟩
    replace hown' : w1.ownsRow w.heap.size 24 4 v' l.length (kcells l ps) := by simpa using hown'
    rcases hown'.2 with ⟨rfl, _⟩ | ⟨g, cap', cur, rfl, hg, rest⟩
    · exact absurd rfl hnil
    · refine ⟨g, cap', rfl, hg, ps, K1.out, ⟨hown'.1, .inr ⟨g, cap', cur, rfl, Nat.zero_le _, rest⟩⟩, fun i t p ht hp => ?_⟩
      exact ((K3.out i t p ht hp).below hB hP).mono (fun b hb => ⟨hb, Nat.lt_of_lt_of_le (hP b hb) hB.size, by have := hP b hb; omega⟩)

section
variable {w w' : World} {Q : Nat → Prop} {g cap : Nat} {l : List VT}
theorem MRow.lt (h : MRow w Q g cap l) : g < w.heap.size := by obtain ⟨ps, _, h2, _⟩ := h; exact h2.lt rfl
theorem MRow.chg {F : List Nat} (h : MRow w Q g cap l) (hc : Chg F w w') (hg : g ∉ F) (hF : ∀ b, Q b → b ∉ F) : MRow w' Q g cap l := by
  obtain ⟨ps, h1, h2, h3⟩ := h
  refine ⟨ps, h1, h2.chg hc (fun k hk => by cases hk; exact hg), fun i t p ht hp => ?_⟩
  exact ((h3 i t p ht hp).chg hc (fun b hb => ⟨hb.2.1, hF b hb.1⟩)).mono fun b hb => ⟨hb.1, Nat.lt_of_lt_of_le hb.2.1 hc.size, hb.2.2⟩
theorem MRow.mono {Q' : Nat → Prop} (h : MRow w Q g cap l) (hQ : ∀ b, Q b → Q' b) : MRow w Q' g cap l := by
  obtain ⟨ps, h1, h2, h3⟩ := h
  exact ⟨ps, h1, h2, fun i t p ht hp => (h3 i t p ht hp).mono fun b hb => ⟨hQ b hb.1, hb.2⟩⟩
theorem MRow.get {i : Nat} {t : VT} (h : MRow w Q g cap l) (hi : l[i]? = some t) : ∃ ao c, w.cell? ⟨g, i * 4, none⟩ = some (.int .i64 t.kind) ∧ w.cell? ⟨g, i * 4 + 1, none⟩ = some (.int .i64 t.num) ∧ w.cell? ⟨g, i * 4 + 2, none⟩ = some (.string t.text) ∧ w.cell? ⟨g, i * 4 + 3, none⟩ = some (.slice ao t.kids.length c) ∧ ValIs w (fun b => Q b ∧ b < w.heap.size ∧ b ≠ g) t (vval t ao c) := by
  obtain ⟨ps, h1, h2, h3⟩ := h
  have hil := (List.getElem?_eq_some_iff.1 hi).1
  obtain ⟨p, hp⟩ : ∃ p, ps[i]? = some p := ⟨_, List.getElem?_eq_getElem (by omega)⟩
  have hlen := kcells_length h1
  have c : ∀ r, r < 4 → w.cell? ⟨g, i * 4 + r, none⟩ = (kcell t p)[r]? := fun r hr => by
    rw [← kcells_get hi hp hr]
    exact h2.cellAt _ (by rw [hlen]; omega)
  exact ⟨p.1, p.2, c 0 (by omega), c 1 (by omega), c 2 (by omega), c 3 (by omega), h3 i t p hi hp⟩
theorem MRow.frozen (h : MRow w Q g cap l) (j : Nat) : w.frozen? ⟨g, j, none⟩ = false := by
  obtain ⟨ps, h1, h2, h3⟩ := h
  exact World.ownsRow.frozenAt h2 j
/-- A kid is another. -/
theorem MRow.set {i : Nat} {t : VT} {ao : Option Addr} {c : Nat} (h : MRow w Q g cap l) (hi : i < l.length) (ht : ValIs w (fun b => Q b ∧ b < w.heap.size ∧ b ≠ g) t (vval t ao c)) :
    MRow ((((w.setCell ⟨g, i * 4, none⟩ (.int .i64 t.kind)).setCell ⟨g, i * 4 + 1, none⟩ (.int .i64 t.num)).setCell ⟨g, i * 4 + 2, none⟩ (.string t.text)).setCell ⟨g, i * 4 + 3, none⟩ (.slice ao t.kids.length c)) Q g cap (l.set i t) ∧
    Chg [g] w ((((w.setCell ⟨g, i * 4, none⟩ (.int .i64 t.kind)).setCell ⟨g, i * 4 + 1, none⟩ (.int .i64 t.num)).setCell ⟨g, i * 4 + 2, none⟩ (.string t.text)).setCell ⟨g, i * 4 + 3, none⟩ (.slice ao t.kids.length c)) := by
  obtain ⟨ps, h1, h2, h3⟩ := h
  have hc : Chg [g] w ((((w.setCell ⟨g, i * 4, none⟩ (.int .i64 t.kind)).setCell ⟨g, i * 4 + 1, none⟩ (.int .i64 t.num)).setCell ⟨g, i * 4 + 2, none⟩ (.string t.text)).setCell ⟨g, i * 4 + 3, none⟩ (.slice ao t.kids.length c)) :=
    ((((Chg.refl [g] w).setCell (p := ⟨g, i * 4, none⟩) (.inl (by simp)) _).setCell (p := ⟨g, i * 4 + 1, none⟩) (.inl (by simp)) _).setCell (p := ⟨g, i * 4 + 2, none⟩) (.inl (by simp)) _).setCell (p := ⟨g, i * 4 + 3, none⟩) (.inl (by simp)) _
  refine ⟨⟨ps.set i (ao, c), by simp [h1], ?_, fun j u p hu hp => ?_⟩, hc⟩
  · have s1 := (World.ownsRow.stored h2 (i * 4) (.int .i64 t.kind)).1
    have s2 := (World.ownsRow.stored s1 (i * 4 + 1) (.int .i64 t.num)).1
    have s3 := (World.ownsRow.stored s2 (i * 4 + 2) (.string t.text)).1
    have s4 := (World.ownsRow.stored s3 (i * 4 + 3) (.slice ao t.kids.length c)).1
    rw [kcells_set t (ao, c) h1 hi] at s4
    rw [List.length_set]
    exact s4
  · have hq : ValIs w (fun b => Q b ∧ b < w.heap.size ∧ b ≠ g) u (vval u p.1 p.2) := by
      by_cases e : j = i
      · subst e
        rw [List.getElem?_set_self (by omega)] at hu hp
        cases hu; cases hp
        exact ht
      · rw [List.getElem?_set_ne (by omega)] at hu hp
        exact h3 j u p hu hp
    exact (hq.chg hc (fun b hb => ⟨hb.2.1, by simp; exact hb.2.2⟩)).mono fun b hb => ⟨hb.1, Nat.lt_of_lt_of_le hb.2.1 hc.size, hb.2.2⟩
theorem MRow.kids {Q' : Nat → Prop} (h : MRow w Q g cap l) (hQ : ∀ b, Q b ∧ b < w.heap.size ∧ b ≠ g → Q' b) (hg : Q' g) : l.length ≤ cap ∧ cap ≤ maxLen ∧ KidsAt w Q' l (some ⟨g, 0, none⟩) 0 := by
  have hh := h
  obtain ⟨ps, h1, h2, h3⟩ := h
  obtain ⟨ao, cap', e, hle, hm, _⟩ := h2.form
  simp only [Value.slice.injEq, true_and] at e
  obtain ⟨_, rfl⟩ := e
  refine ⟨hle, hm, KidsAt.mk fun i t ht => ?_⟩
  obtain ⟨ao, c, c0, c1, c2, c3, hv⟩ := hh.get ht
  refine ⟨g, 0, _, _, _, _, rfl, hg, ?_, ?_, ?_, ?_, hv.mono hQ⟩
  · rw [Nat.zero_add, Nat.zero_add]; exact c0
  · rw [Nat.zero_add, Nat.zero_add]; exact c1
  · rw [Nat.zero_add, Nat.zero_add]; exact c2
  · rw [Nat.zero_add, Nat.zero_add]; exact c3
end
theorem below_chg {w w' : World} (h : Below w.heap.size w w') : Chg [] w w' := ⟨h.os, h.tape, h.output, h.size, fun k hk _ => h.block k hk⟩
def zeroT : VT := .node 0 0 ⟨#[]⟩ []
def MoveEnd (w : World) (P : Nat → Prop) (r : Option VT) (e : Ending) (w' : World) : Prop :=
  ∃ v, e = .returned (.tuple #[v, .bool r.isSome]) ∧ ValIs w' (fun b => (P b ∨ w.heap.size ≤ b) ∧ b < w'.heap.size) (r.getD zeroT) v ∧ Below w.heap.size w w'
end Go.Proofs.YtofmbpmmgpbdbaaDoor
