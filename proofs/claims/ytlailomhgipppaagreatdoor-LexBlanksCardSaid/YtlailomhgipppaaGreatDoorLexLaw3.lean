/- The laws of layer 10: the document's Same of rows that are the same. -/
import Derived.Test.YtlailomhgipppaaGreatDoorLexLaw2
namespace Go.Proofs.YtlailomhgipppaaGreatDoor
open Go.RowKit Lx
set_option linter.unusedVariables false
set_option linter.unusedSimpArgs false

theorem RRow.form2 {w : World} {N : Nat} {vo : Value} {ts : List Tok} (h : RRow w N vo ts) : ∃ a cap, vo = .slice a ts.length cap ∧ ∀ (j : Nat) t, ts[j]? = some t → ∃ g, a = some ⟨g, 0, none⟩ ∧ g < w.heap.size ∧ w.cell? ⟨g, j * 5, none⟩ = some (.int .i64 t.kind) ∧ w.cell? ⟨g, j * 5 + 1, none⟩ = some (.int .i64 t.line) ∧ w.cell? ⟨g, j * 5 + 2, none⟩ = some (.int .i64 t.col) ∧ w.cell? ⟨g, j * 5 + 3, none⟩ = some (.int .i64 t.num) ∧ w.cell? ⟨g, j * 5 + 4, none⟩ = some (.string (bytes t.text)) := by
  rcases h.form with ⟨hts, hv⟩ | ⟨g, cap, hv, _, hc⟩
  · subst hts
    exact ⟨none, 0, hv, fun j t ht => by cases ht⟩
  · refine ⟨_, cap, hv, fun j t ht => ⟨g, rfl, h.1.lt (by rw [hv]; rfl), ?_⟩⟩
    obtain ⟨g1, g2, g3, g4, g5⟩ := tcells_get ht
    exact ⟨hc _ _ g1, hc _ _ g2, hc _ _ g3, hc _ _ g4, hc _ _ g5⟩
def SameLoop (w : World) (n : Nat) (gk : Nat) (s5 : Value) (wr : World) : Prop := ∃ j : Nat, j + gk = n ∧ s5 = .int .i64 (j : Int) ∧ Below w.heap.size w wr
set_option maxRecDepth 100000 in
set_option maxHeartbeats 4000000 in
theorem same_any (w : World) (N M : Nat) (v1 v2 : Value) (ts : List Tok) (h1 : RRow w N v1 ts) (h2 : RRow w M v2 ts) (hl : ts.length ≤ 100000) :
    Calls Tryz.prog 11 #[v1, v2] w fun e w' => e = .returned (.bool true) ∧ Below w.heap.size w w' := by
  obtain ⟨a1, c1, rfl, hc1⟩ := h1.form2
  obtain ⟨a2, c2, rfl, hc2⟩ := h2.form2
  have HC1 := Lib.hid hc1
  have HC2 := Lib.hid hc2
  have hl2 : (ts.length : Int) ≤ 100000 := by omega
  clear h1 h2 hc1 hc2 hl
  go_enter Tryz.func11, Tryz.ntmps11
  go_wp2
  go_loopg [5] ts.length (fun gk s5 wr => SameLoop w ts.length gk s5 wr)
  case atStart => exact ⟨0, by omega, rfl, Below.refl _ _⟩
  case round =>
    obtain ⟨j, hj, rfl, hb⟩ := hrel
    have HB := Lib.hid hb
    have HJ := Lib.hid hj
    by_cases hlt : j < ts.length
    · obtain ⟨t, ht⟩ : ∃ t, ts[j]? = some t := ⟨_, List.getElem?_eq_getElem hlt⟩
      obtain ⟨g, rfl, hg, x0, x1, x2, x3, x4⟩ := HC1.out j t ht
      obtain ⟨g', rfl, hg', y0, y1, y2, y3, y4⟩ := HC2.out j t ht
      have p0 := (hb.cell (p := ⟨g, j * 5, none⟩) hg).trans x0
      have p1 := (hb.cell (p := ⟨g, j * 5 + 1, none⟩) hg).trans x1
      have p2 := (hb.cell (p := ⟨g, j * 5 + 2, none⟩) hg).trans x2
      have p3 := (hb.cell (p := ⟨g, j * 5 + 3, none⟩) hg).trans x3
      have p4 := (hb.cell (p := ⟨g, j * 5 + 4, none⟩) hg).trans x4
      have r0 := (hb.cell (p := ⟨g', j * 5, none⟩) hg').trans y0
      have r1 := (hb.cell (p := ⟨g', j * 5 + 1, none⟩) hg').trans y1
      have r2 := (hb.cell (p := ⟨g', j * 5 + 2, none⟩) hg').trans y2
      have r3 := (hb.cell (p := ⟨g', j * 5 + 3, none⟩) hg').trans y3
      have r4 := (hb.cell (p := ⟨g', j * 5 + 4, none⟩) hg').trans y4
      have k0 : (j : Int) < (ts.length : Int) := by omega
      have k1 : (0 : Int) ≤ (j : Int) := by omega
      clear hb hj hlt ht hg hg' x0 x1 x2 x3 x4 y0 y1 y2 y3 y4
      go_wp2
      go_quiet (fail)
      go_wp2
      go_roundg (gk - 1)
      case measure => have := HJ.out; omega
      case rel => exact ⟨j + 1, by have := HJ.out; omega, by simp, below_drewN HB.out _⟩
    · have k0 : ¬ (j : Int) < (ts.length : Int) := by omega
      clear hb hj hlt
      go_wp2
      go_ret
      exact ⟨rfl, HB.out⟩
end Go.Proofs.YtlailomhgipppaaGreatDoor
