/- Boxes of a value; bytes that lie somewhere: small facts, out of the readers texts. -/
import Derived.Test.YtofmbpmmgpbdbaaDoorByteLaw
namespace Go.Proofs.YtofmbpmmgpbdbaaDoor
open Go.RowKit Go.Maps Wr Go.ChangeShapes Go.WideShapes
set_option linter.unusedVariables false

theorem KRow.chg {w w' : World} {base : Nat} {v : Value} {l : List VT} {F : List Nat} (h : KRow w base v l) (hc : Chg F w w') (hF : ∀ k ∈ F, k < base) : KRow w' base v l := by
  obtain ⟨ps, h1, h2, h3, h4⟩ := h
  refine ⟨ps, h1, h2.chg hc (fun k hk hm => by have := h3 k hk; have := hF k hm; omega), h3, fun i t p ht hp => ?_⟩
  exact ((h4 i t p ht hp).chg hc (fun b hb => ⟨hb.2.1, fun hm => by have := hF b hm; omega⟩)).mono fun b hb => ⟨hb.1, Nat.lt_of_lt_of_le hb.2.1 hc.size, hb.2.2⟩
theorem hdr4_cells {w : World} {q : Nat} {a b c d : Value} {t : TypeId} (h : w.heap[q]? = some (.cells #[a, b, c, d] t (0, 0))) : w.cell? ⟨q, 0, none⟩ = some a ∧ w.cell? ⟨q, 1, none⟩ = some b ∧ w.cell? ⟨q, 2, none⟩ = some c ∧ w.cell? ⟨q, 3, none⟩ = some d ∧ ∀ j, w.frozen? ⟨q, j, none⟩ = false :=
  ⟨by simp [World.cell?, h], by simp [World.cell?, h], by simp [World.cell?, h], by simp [World.cell?, h], fun j => by simp [World.frozen?, h]⟩
/-- The result's cells, written. -/
theorem four_ret {w : World} {H : Nat} {a b c d y0 y1 y2 y3 : Value} {t : TypeId} (h : w.heap[H]? = some (.cells #[a, b, c, d] t (0, 0))) :
    ((((w.setCell ⟨H, 0, none⟩ y0).setCell ⟨H, 1, none⟩ y1).setCell ⟨H, 2, none⟩ y2).setCell ⟨H, 3, none⟩ y3).heap[H]? = some (.cells #[y0, y1, y2, y3] t (0, 0)) ∧
    Chg [H] w ((((w.setCell ⟨H, 0, none⟩ y0).setCell ⟨H, 1, none⟩ y1).setCell ⟨H, 2, none⟩ y2).setCell ⟨H, 3, none⟩ y3) := by
  have h2 := hdr4_set (o := 0) (u := y0) h
  have h3 := hdr4_set (o := 1) (u := y1) (a := y0) (b := b) (c := c) (d := d) (h2.trans rfl)
  have h4 := hdr4_set (o := 2) (u := y2) (a := y0) (b := y1) (c := c) (d := d) (h3.trans rfl)
  have h5 := hdr4_set (o := 3) (u := y3) (a := y0) (b := y1) (c := y2) (d := d) (h4.trans rfl)
  refine ⟨h5.trans rfl, ?_⟩
  exact ((((Chg.refl [H] w).setCell (p := ⟨H, 0, none⟩) (.inl (by simp)) _).setCell (p := ⟨H, 1, none⟩) (.inl (by simp)) _).setCell (p := ⟨H, 2, none⟩) (.inl (by simp)) _).setCell (p := ⟨H, 3, none⟩) (.inl (by simp)) _
theorem app_block {w5 w6 : World} {o : Obj} {v : Value} {q : Nat} (hg : (w5.alloc o).grownBy w6 v.ownBlock) (hq : q < w5.heap.size) (hv : v.ownBlock ≠ some q) : w6.heap[q]? = w5.heap[q]? :=
  (((Chg.refl v.ownBlock.toList w5).alloc o).grown hg (fun k hk => .inl (by simp [hk]))).block q hq (by simpa using hv)
theorem cell3_later {w : World} {q : Nat} {a b c d : Value} {t : TypeId} (h : w.heap[q]? = some (.cells #[a, b, c, d] t (0, 0))) : ∀ o, (w.alloc o).cell? ⟨q, 3, none⟩ = some d := fun o => by
  have := (heap_alloc_old w o (lt_of_block h)).trans h
  simp [World.cell?, this]
theorem wf_in {k : Int} (h1 : -9223372036854775808 ≤ k) (h2 : k ≤ 9223372036854775807) : (Lit.int .i64 k).wf = true := by
  have e1 : IntKind.i64.min = -9223372036854775808 := by decide
  have e2 : IntKind.i64.max = 9223372036854775807 := by decide
  simp only [Lit.wf, Bool.and_eq_true, decide_eq_true_eq]
  omega
abbrev Z4 : Obj := .cells #[.int .i64 0, .int .i64 0, .string ⟨#[]⟩, .slice none 0 0] 24 (0, 0)
theorem chg_set1 {w w' : World} {p o : Nat} (h : Chg [p] w w') (u : Value) : Chg [p] w (w'.setCell ⟨p, o, none⟩ u) := Chg.setCell (p := ⟨p, o, none⟩) h (.inl (by simp)) _
/-- A slice that reads as these bytes. -/
def BytesIn (w : World) (v : Value) (b : List UInt8) : Prop :=
  ∃ ao cap, v = .slice ao b.length cap ∧ b.length ≤ cap ∧ cap ≤ maxLen ∧ (ao = none → cap = 0) ∧ ∀ j (h : j < b.length), ∃ g o, ao = some ⟨g, o, none⟩ ∧ g < w.heap.size ∧ w.cell? ⟨g, o + j, none⟩ = some (.int .u8 ((b[j]).toNat : Int))
theorem BytesIn.below {w w' : World} {v : Value} {b : List UInt8} (h : BytesIn w v b) (hb : Below w.heap.size w w') : BytesIn w' v b := by
  obtain ⟨ao, cap, h1, h2, h3, h4, h5⟩ := h
  refine ⟨ao, cap, h1, h2, h3, h4, fun j hj => ?_⟩
  obtain ⟨g, o, e0, e1, e2⟩ := h5 j hj
  exact ⟨g, o, e0, Nat.lt_of_lt_of_le e1 hb.size, (hb.cell (p := ⟨g, o + j, none⟩) e1).trans e2⟩
theorem row_cells {w : World} {N : Nat} {v : Value} {b : List UInt8} (h : ByteRow w N v b) : ∃ ao cap, v = .slice ao b.length cap ∧ b.length ≤ cap ∧ cap ≤ maxLen ∧ (ao = none → cap = 0) ∧ ∀ j (h : j < b.length), ∃ g, ao = some ⟨g, 0, none⟩ ∧ N ≤ g ∧ g < w.heap.size ∧ w.cell? ⟨g, j, none⟩ = some (.int .u8 ((b[j]).toNat : Int)) := by
  rcases h.1.shape with ⟨rfl, h0⟩ | ⟨g, cap, rfl, h1, h2, hg⟩
  · have hb : b = [] := by
      have := congrArg List.length h0
      rw [bvals_length] at this
      exact List.length_eq_zero_iff.1 this
    subst hb
    exact ⟨none, 0, rfl, Nat.le_refl _, by unfold maxLen; omega, fun _ => rfl, fun j hj => absurd hj (by simp)⟩
  · have hr := h.1
    rw [bvals_length] at h1 hr ⊢
    refine ⟨some ⟨g, 0, none⟩, cap, rfl, h1, h2, (fun e => by cases e), fun j hj => ⟨g, rfl, h.2 g rfl, hg, ?_⟩⟩
    rw [hr.cellAt j (by rw [bvals_length]; exact hj)]
    simp [bvals, hj]
theorem BytesIn.row {w : World} {N : Nat} {v : Value} {b : List UInt8} (h : ByteRow w N v b) : BytesIn w v b := by
  obtain ⟨ao, cap, h1, h2, h3, h4, h5⟩ := row_cells h
  refine ⟨ao, cap, h1, h2, h3, h4, fun j hj => ?_⟩
  obtain ⟨g, e0, _, e1, e2⟩ := h5 j hj
  exact ⟨g, 0, e0, e1, by rw [Nat.zero_add]; exact e2⟩
/-- 'string(b)'. -/
theorem run_bytes_str {w : World} {v : Value} {b : List UInt8} (h : BytesIn w v b) : (convert 29 9 v).run Tryd.prog w = .ok (.string (bytes b)) w := by
  obtain ⟨ao, cap, rfl, h1, h2, h3, h4⟩ := h
  cases ao with
  | none =>
    have hc := h3 rfl
    have hb : b = [] := List.length_eq_zero_iff.1 (by omega)
    subst hb
    exact run_convert_bytes_nil w 29 5 Tryd.underlying29 Tryd.underlying5 0 cap 9 Tryd.underlying9
  | some ad =>
    exact run_convert_bytes_back (P := Tryd.prog) w 29 9 5 ad cap b Tryd.underlying29 Tryd.underlying5 Tryd.underlying9 (fun j hj => by
      obtain ⟨g, o, e1, _, e4⟩ := h4 j hj
      cases e1
      rw [show (Addr.add ⟨g, o, none⟩ j) = ⟨g, o + j, none⟩ by unfold Addr.add; split <;> simp_all]
      exact e4)
theorem err_zero {t : VT} (h : encErr t = 0) : t.right 1 = true ∧ ¬ 16384 < t.enc.length := by
  unfold encErr at h
  split at h
  · rename_i h1
    split at h
    · rename_i h2; exact ⟨h1, by omega⟩
    · omega
  · omega
end Go.Proofs.YtofmbpmmgpbdbaaDoor
