/- The program's reader: the small calls. -/
import Derived.Test.YtofmbpmmgpbdbaaDoorRdRef2
namespace Go.Proofs.YtofmbpmmgpbdbaaDoor
open Go.RowKit Go.Maps Wr
set_option linter.unusedVariables false
variable {M : Nat}

/-- A slice of bytes that reads as b, none of it in the block p. -/
def BytesAt (M : Nat) (w : World) (p : Nat) (v : Value) (b : List UInt8) : Prop :=
  ∃ ao cap, v = .slice ao b.length cap ∧ b.length ≤ cap ∧ cap ≤ maxLen ∧ ∀ j (h : j < b.length), ∃ g o, ao = some ⟨g, o, none⟩ ∧ g ≠ p ∧ (g < M ∧ M ≤ w.heap.size) ∧ w.cell? ⟨g, o + j, none⟩ = some (.int .u8 ((b[j]).toNat : Int))
theorem BytesAt.chg {w w' : World} {p : Nat} {v : Value} {b : List UInt8} (h : BytesAt M w p v b) (hc : Chg [p] w w') : BytesAt M w' p v b := by
  obtain ⟨ao, cap, h1, h2, h3, h4⟩ := h
  refine ⟨ao, cap, h1, h2, h3, fun j hj => ?_⟩
  obtain ⟨g, o, e1, e2, e3, e4⟩ := h4 j hj
  exact ⟨g, o, e1, e2, ⟨e3.1, Nat.le_trans e3.2 hc.size⟩, (hc.cell (p := ⟨g, o + j, none⟩) (Nat.lt_of_lt_of_le e3.1 e3.2) (by simpa using e2)).trans e4⟩
/-- The program's reader: what is left, the first error. -/
def InW (M : Nat) (w : World) (p : Nat) (b : List UInt8) (e : Int) : Prop :=
  ∃ v, w.heap[p]? = some (.cells #[v, .int .i64 e] 100 (0, 0)) ∧ BytesAt M w p v b
theorem inw_cells {w : World} {p : Nat} {b : List UInt8} {e : Int} (h : InW M w p b e) : ∃ ao cap, w.cell? ⟨p, 0, none⟩ = some (.slice ao b.length cap) ∧ w.cell? ⟨p, 1, none⟩ = some (.int .i64 e) ∧ (∀ j, w.frozen? ⟨p, j, none⟩ = false) ∧ b.length ≤ cap ∧ cap ≤ maxLen ∧
    ∀ j (h : j < b.length), ∃ g o, ao = some ⟨g, o, none⟩ ∧ g ≠ p ∧ (g < M ∧ M ≤ w.heap.size) ∧ w.cell? ⟨g, o + j, none⟩ = some (.int .u8 ((b[j]).toNat : Int)) := by
  obtain ⟨v, hz, ao, cap, rfl, h2, h3, h4⟩ := h
  exact ⟨ao, cap, by simp [World.cell?, hz], by simp [World.cell?, hz], fun j => by simp [World.frozen?, hz], h2, h3, h4⟩
theorem InW.err {w : World} {p : Nat} {b : List UInt8} {e : Int} (h : InW M w p b e) (x : Int) : InW M (w.setCell ⟨p, 1, none⟩ (.int .i64 x)) p b x ∧ Chg [p] w (w.setCell ⟨p, 1, none⟩ (.int .i64 x)) := by
  obtain ⟨v, hz, hb⟩ := h
  have hc : Chg [p] w (w.setCell ⟨p, 1, none⟩ (.int .i64 x)) := Chg.setCell (p := ⟨p, 1, none⟩) (Chg.refl [p] w) (.inl (by simp)) _
  exact ⟨⟨v, (hdr2_set hz).trans rfl, hb.chg hc⟩, hc⟩

theorem err_any (p : Nat) (b : List UInt8) (x : Int) (w : World) (h : InW M w p b x) : Calls Tryd.prog 71 #[.pointer (some ⟨p, 0, none⟩)] w fun e w' => e = .returned (.int .i64 x) ∧ w = w' := by
  obtain ⟨ao, cap, c0, c1, f0, _⟩ := inw_cells h
  clear h
  go_enter Tryd.func71, Tryd.ntmps71
  go_wp2
  go_ret
  exact ⟨rfl, rfl⟩
theorem fail_any (p : Nat) (b : List UInt8) (x : Int) (w : World) (h : InW M w p b 0) : Calls Tryd.prog 68 #[.pointer (some ⟨p, 0, none⟩), .int .i64 x] w fun e w' => e = .returned (.tuple #[]) ∧ InW M w' p b x ∧ Chg [p] w w' := by
  have H := Lib.hid h
  obtain ⟨ao, cap, c0, c1, f0, _⟩ := inw_cells h
  clear h
  go_enter Tryd.func68, Tryd.ntmps68
  go_wp2
  go_end0
  exact ⟨rfl, H.out.err x⟩
theorem fail_past (p : Nat) (b : List UInt8) (x y : Int) (w : World) (h : InW M w p b y) (hy : y ≠ 0) : Calls Tryd.prog 68 #[.pointer (some ⟨p, 0, none⟩), .int .i64 x] w fun e w' => e = .returned (.tuple #[]) ∧ w = w' := by
  have hq : (y == 0) = false := by simpa using hy
  obtain ⟨ao, cap, c0, c1, f0, _⟩ := inw_cells h
  clear h hy
  go_enter Tryd.func68, Tryd.ntmps68
  go_wp2
  go_end0
  exact ⟨rfl, rfl⟩
set_option maxRecDepth 100000 in
theorem end_any (p : Nat) (b : List UInt8) (x : Int) (w : World) (h : InW M w p b x) : Calls Tryd.prog 46 #[.pointer (some ⟨p, 0, none⟩)] w fun e w' => e = .returned (.int .i64 (if x = 0 ∧ b ≠ [] then 2 else x)) ∧ Chg [p] w w' := by
  have H := Lib.hid h
  obtain ⟨ao, cap, c0, c1, f0, _, h63, _⟩ := inw_cells h
  clear h
  unfold maxLen at h63
  by_cases hb : b = []
  · subst hb
    rw [if_neg (by simp)]
    have hl : ¬ (0 : Int) < ((([] : List UInt8).length : Nat) : Int) := by simp
    go_enter Tryd.func46, Tryd.ntmps46
    go_wp2_with (go_at_call 71; refine (err_any p [] x _ H.out).mono ?_; rintro e w' ⟨rfl, rfl⟩)
    go_ret
    exact ⟨rfl, Chg.refl _ _⟩
  · have hl : (0 : Int) < ((b.length : Nat) : Int) := by cases b; exact absurd rfl hb; simp
    by_cases hx : x = 0
    · subst hx
      rw [if_pos ⟨rfl, hb⟩]
      go_enter Tryd.func46, Tryd.ntmps46
      go_wp2_with (first
        | (go_at_call 68; refine (fail_any p b 2 _ H.out).mono ?_; rintro e w5 ⟨rfl, hi, hc⟩)
        | (go_at_call 71; refine (err_any p b 2 _ hi).mono ?_; rintro e w' ⟨rfl, rfl⟩))
      go_ret
      exact ⟨rfl, hc⟩
    · rw [if_neg (fun h => hx h.1)]
      go_enter Tryd.func46, Tryd.ntmps46
      go_wp2_with (first
        | (go_at_call 68; refine (fail_past p b 2 x _ H.out hx).mono ?_; rintro e w' ⟨rfl, rfl⟩)
        | (go_at_call 71; refine (err_any p b x _ H.out).mono ?_; rintro e w' ⟨rfl, rfl⟩))
      go_ret
      exact ⟨rfl, Chg.refl _ _⟩
end Go.Proofs.YtofmbpmmgpbdbaaDoor
