/- The laws of layer 10: what they have in common: lexes, from, Same. -/
import Derived.Test.YtlailomhgipppaaGreatDoorLexScan
namespace Go.Proofs.YtlailomhgipppaaGreatDoor
open Go.RowKit Lx
set_option linter.unusedVariables false
set_option linter.unusedSimpArgs false

theorem scan_c1 : Lx.scanT [40, 97, 32, 45, 49, 32, 34, 120, 92, 110, 34, 41] = .ok [⟨0, 1, 1, 0, []⟩, ⟨5, 1, 2, 0, [97]⟩, ⟨2, 1, 4, -1, []⟩, ⟨4, 1, 7, 0, [120, 10]⟩, ⟨1, 1, 12, 0, []⟩] := by kernel_rfl
theorem scan_c2 : Lx.scanT [49, 50, 97] = .error (1, 1) := by kernel_rfl
/-- A row of tokens that the call itself made. -/
def TRow (w : World) (N : Nat) (vo : Value) (ts : List Tok) : Prop := RowZ w 35 5 vo ts.length (tcells ts) ∧ ∀ k, vo.ownBlock = some k → N ≤ k
theorem TRow.below {w w' : World} {N : Nat} {vo : Value} {ts : List Tok} (h : TRow w N vo ts) (hb : Below w.heap.size w w') : TRow w' N vo ts := ⟨h.1.below hb (fun k hk => h.1.lt hk), h.2⟩
theorem TRow.form {w : World} {N : Nat} {vo : Value} {ts : List Tok} (h : TRow w N vo ts) : (ts = [] ∧ vo = .slice none 0 0) ∨ ∃ g cap, vo = .slice (some ⟨g, 0, none⟩) ts.length cap ∧ ts.length ≤ cap ∧ ∀ (j : Nat) v, (tcells ts)[j]? = some v → w.cell? ⟨g, j, none⟩ = some v := by
  rcases h.1.2 with ⟨h1, h2⟩ | ⟨g, cap, cur, h1, hb, hg, hn, rest⟩
  · exact .inl ⟨List.length_eq_zero_iff.1 h2, h1⟩
  · refine .inr ⟨g, cap, h1, hn, fun j v hj => ?_⟩
    have hr := h.1
    rw [h1] at hr
    have hl := (List.getElem?_eq_some_iff.1 hj).1
    exact (hr.cellAt j hl).trans hj
theorem tcells_get : ∀ {l : List Tok} {j : Nat} {t : Tok}, l[j]? = some t → (tcells l)[j * 5]? = some (.int .i64 t.kind) ∧ (tcells l)[j * 5 + 1]? = some (.int .i64 t.line) ∧ (tcells l)[j * 5 + 2]? = some (.int .i64 t.col) ∧ (tcells l)[j * 5 + 3]? = some (.int .i64 t.num) ∧ (tcells l)[j * 5 + 4]? = some (.string (bytes t.text))
  | [], _, _, h => by cases h
  | y :: l, 0, x, h => by rw [List.getElem?_cons_zero] at h; cases h; exact ⟨rfl, rfl, rfl, rfl, rfl⟩
  | y :: l, j + 1, x, h => by
    rw [List.getElem?_cons_succ] at h
    obtain ⟨h1, h2, h3, h4, h5⟩ := tcells_get h
    have e : ∀ k, (tcells (y :: l))[(j + 1) * 5 + k]? = (tcells l)[j * 5 + k]? := fun k => by
      rw [tcells, show (j + 1) * 5 + k = (j * 5 + k) + 1 + 1 + 1 + 1 + 1 by omega, List.getElem?_cons_succ, List.getElem?_cons_succ, List.getElem?_cons_succ, List.getElem?_cons_succ, List.getElem?_cons_succ]
    exact ⟨(e 0).trans h1, (e 1).trans h2, (e 2).trans h3, (e 3).trans h4, (e 4).trans h5⟩
theorem scan_ok {src : ByteArray} {w : World} {ts : List Tok} (hs : src.size ≤ 65536) (hF : FTab w) (hE : ErrVar w) (h : Lx.scanT src.data.toList = .ok ts) :
    Calls Tryz.prog 7 #[.string src] w fun e w' => ∃ vo, e = .returned (.tuple #[vo, .agg #[.int .i64 0, .int .i64 0], .int .i64 0]) ∧ TRow w' w.heap.size vo ts ∧ Below w.heap.size w w' :=
  (scan_any src w hs hF hE).mono fun e w' h2 => by
    obtain ⟨hb, h3⟩ := h2
    rw [h] at h3
    obtain ⟨vo, h4, h5, h6⟩ := h3
    exact ⟨vo, h4, ⟨h5, h6⟩, hb⟩
theorem scan_bad {src : ByteArray} {w : World} {x : Pos} (hs : src.size ≤ 65536) (hF : FTab w) (hE : ErrVar w) (h : Lx.scanT src.data.toList = .error x) :
    Calls Tryz.prog 7 #[.string src] w fun e w' => e = .returned (.tuple #[.slice none 0 0, .agg #[.int .i64 x.1, .int .i64 x.2], .int .i64 10]) ∧ Below w.heap.size w w' :=
  (scan_any src w hs hF hE).mono fun e w' h2 => by
    obtain ⟨hb, h3⟩ := h2
    rw [h] at h3
    exact ⟨h3, hb⟩
set_option maxRecDepth 100000 in
set_option maxHeartbeats 1600000 in
theorem lexes_any (w : World) (hF : FTab w) (hE : ErrVar w) : Calls Tryz.prog 6 #[] w fun e w' => e = .returned (.bool true) ∧ Below w.heap.size w w' := by
  have HS1 := Lib.hid (scan_ok (src := ⟨#[40, 97, 32, 45, 49, 32, 34, 120, 92, 110, 34, 41]⟩) (by decide) hF hE scan_c1)
  have HS2 : Hid (∀ W, Below w.heap.size w W → Calls Tryz.prog 7 #[.string ⟨#[49, 50, 97]⟩] W fun e w' => e = .returned (.tuple #[.slice none 0 0, .agg #[.int .i64 1, .int .i64 1], .int .i64 10]) ∧ Below W.heap.size W w') := fun W hW => scan_bad (src := ⟨#[49, 50, 97]⟩) (by decide) (hF.below hW) (hE.below hW) scan_c2
  clear hF hE
  go_enter Tryz.func6, Tryz.ntmps6
  go_wp2_with (first
    | (go_at_call 7; (with_reducible refine HS1.out.mono ?_); rintro e w1 ⟨vo, rfl, hr, hb⟩; have HB1 := Lib.hid hb; obtain ⟨g, cap, rfl, hc⟩ : ∃ g cap, vo = .slice (some ⟨g, 0, none⟩) 5 cap ∧ 5 ≤ cap := (by rcases hr.form with ⟨h, _⟩ | ⟨g, cap, h1, h2, _⟩; cases h; exact ⟨g, cap, h1, h2⟩); have HR1 := Lib.hid hr; clear hr hb HS1; dsimp only)
    | (go_at_call 7; (with_reducible refine (HS2.out _ (HB1.out.alloc HB1.out.size _)).mono ?_); rintro e w2 ⟨rfl, hb⟩; have hr2 := (HR1.out.below ((Below.refl _ _).alloc (Nat.le_refl _) _)).below hb; have HB2 := Lib.hid ((HB1.out.alloc HB1.out.size _).trans (hb.mono (by have := HB1.out.size; simp; omega))); have hx : ∀ o, (w2.alloc o).cell? ⟨g, 19, none⟩ = some (.string (bytes [120, 10])) ∧ (w2.alloc o).cell? ⟨g, 13, none⟩ = some (.int .i64 (-1)) := (fun o => by rcases (hr2.below ((Below.refl _ _).alloc (Nat.le_refl _) o)).form with ⟨h, _⟩ | ⟨g', cap', h1, h2, h3⟩; cases h; (have e : g = g' := by injection h1 with h4; injection h4 with h5; injection h5); subst e; exact ⟨h3 19 _ rfl, h3 13 _ rfl⟩); have hx1 := fun o => (hx o).1; have hx2 := fun o => (hx o).2; have hbt : bytes [120, 10] = ⟨#[120, 10]⟩ := rfl; rw [hbt] at hx1; clear hx hbt;  clear hr2 hb HS2; dsimp only))
  go_ret
  exact ⟨rfl, HB2.out.alloc HB2.out.size _⟩
end Go.Proofs.YtlailomhgipppaaGreatDoor
