/- The reference's Swap. -/
import Derived.Test.YthchkekegkhanaaDoorKdLawTame
import Derived.Test.YthchkekegkhanaaDoorKdRSolve
namespace Go.Proofs.YthchkekegkhanaaDoor
open Go.RowKit Go.Maps
set_option linter.unusedVariables false

/-- A slice of numbers, wherever it lies. -/
def IntsAt (w : World) (v : Value) (h : List Int) : Prop := ∃ ao cap, v = .slice ao h.length cap ∧ h.length ≤ cap ∧ cap ≤ maxLen ∧ ∀ (i : Nat) (x : Int), h[i]? = some x → ∃ g o, ao = some ⟨g, o, none⟩ ∧ g < w.heap.size ∧ w.cell? ⟨g, o + i, none⟩ = some (.int .i64 x)
theorem IntsAt.form {w : World} {v : Value} {h : List Int} (hi : IntsAt w v h) : ∃ ao cap, v = .slice ao h.length cap ∧ h.length ≤ cap ∧ cap ≤ maxLen := by
  obtain ⟨ao, cap, a, b, c, _⟩ := hi
  exact ⟨ao, cap, a, b, c⟩
theorem IntsAt.at {w : World} {ao : Option Addr} {n c : Nat} {h : List Int} (hi : IntsAt w (.slice ao n c) h) {i : Nat} {x : Int} (hx : h[i]? = some x) : ∃ g o, ao = some ⟨g, o, none⟩ ∧ g < w.heap.size ∧ w.cell? ⟨g, o + i, none⟩ = some (.int .i64 x) := by
  obtain ⟨_, _, e, _, _, k⟩ := hi
  cases e
  exact k i x hx
theorem IntsAt.below {w w' : World} {v : Value} {h : List Int} (hi : IntsAt w v h) (hb : Below w.heap.size w w') : IntsAt w' v h := by
  obtain ⟨ao, cap, a, b, c, k⟩ := hi
  refine ⟨ao, cap, a, b, c, fun i x hx => ?_⟩
  obtain ⟨g, o, rfl, hg, hc⟩ := k i x hx
  exact ⟨g, o, rfl, Nat.lt_of_lt_of_le hg hb.size, (hb.cell (p := ⟨g, o + i, none⟩) hg).trans hc⟩
theorem IRow.ints {w : World} {N : Nat} {v : Value} {l : List Int} (h : IRow w N v l) : IntsAt w v l := by
  obtain ⟨ao, cap, rfl, h1, h2⟩ := h.form
  refine ⟨ao, cap, rfl, h1, h2, fun i x hx => ?_⟩
  obtain ⟨g, rfl, hg, hc⟩ := h.at hx
  exact ⟨g, 0, rfl, hg, by rw [Nat.zero_add]; exact hc⟩
/-- What stands for n: the type beside the first n of the row. -/
def pick (n : Int) : List Int → List Ty → Option Ty
  | a :: l, t :: ts => if a = n then some t else pick n l ts
  | _, _ => none
def swS (h : List Int) (ts : List Ty) (n : Int) : Ty := (pick n h ts).getD (.var n)
theorem pick_drop {n y : Int} {h : List Int} {ts : List Ty} {i : Nat} {u : Ty} (hy : h[i]? = some y) (hu : ts[i]? = some u) : pick n (h.drop i) (ts.drop i) = if y = n then some u else pick n (h.drop (i + 1)) (ts.drop (i + 1)) := by
  obtain ⟨h1, e1⟩ := List.getElem?_eq_some_iff.1 hy
  obtain ⟨h2, e2⟩ := List.getElem?_eq_some_iff.1 hu
  rw [List.drop_eq_getElem_cons h1, List.drop_eq_getElem_cons h2, e1, e2, pick]
theorem pick_none {n : Int} {h : List Int} {ts : List Ty} {i : Nat} (hi : ¬ i < h.length ∨ ¬ i < ts.length) : pick n (h.drop i) (ts.drop i) = none := by
  rcases hi with hi | hi
  · rw [List.drop_eq_nil_of_le (by omega : h.length ≤ i), pick]
    simp
  · rw [List.drop_eq_nil_of_le (by omega : ts.length ≤ i)]
    cases h.drop i <;> rw [pick] <;> simp
def SwEnd (P : Nat → Prop) (w : World) (r : Ty) (e : Ending) (w' : World) : Prop :=
  ∃ ao cap, e = .returned (.agg #[.int .i64 r.op, .int .i64 r.num, .string r.text, .slice ao r.kids.length cap]) ∧ TyIs w' (fun b => P b ∨ (w.heap.size ≤ b ∧ b < w'.heap.size)) r (tval r ao cap) ∧ Below w.heap.size w w'
theorem sw_end {w wx wz : World} {u : Ty} {P : Nat → Prop} {ao : Option Addr} {cap : Nat} (hb : Below w.heap.size w wx) (hz : Chg [w.heap.size + 1] wx wz) (hv : TyIs wx P u (tval u ao cap)) (hP : ∀ b, P b → b < w.heap.size) :
    SwEnd P w u (.returned (.agg #[.int .i64 u.op, .int .i64 u.num, .string u.text, .slice ao u.kids.length cap])) wz :=
  ⟨ao, cap, rfl, (hv.chg hz (fun b h => ⟨by have := hP b h; have := hb.size; omega, by have := hP b h; simp; omega⟩)).mono (fun b h => .inl h), hb.trans (hz.below (by exact hb.size) (by simp))⟩
def SwLoop (n : Int) (W : World) (h : List Int) (ts : List Ty) (gk : Nat) (s7 : Value) (wr : World) : Prop :=
  ∃ i : Nat, s7 = .int .i64 i ∧ i + gk = h.length ∧ pick n h ts = pick n (h.drop i) (ts.drop i) ∧ Below W.heap.size W wr
set_option maxRecDepth 100000 in
set_option maxHeartbeats 1600000 in
theorem refSwap_var (n : Int) {h : List Int} {ts : List Ty} {v xv : Value} {ao2 : Option Addr} {cap2 : Nat} {w : World} {P : Nat → Prop} (ht : TyIs w P (.var n) v) (hP : ∀ b, P b → b < w.heap.size) (hr : IntsAt w xv h) (hts : TysAt w P ts ao2 0) (hc1 : ts.length ≤ cap2) (hc2 : cap2 ≤ maxLen) (hln : h.length ≤ 100000) :
    Calls Tryd.prog 31 #[v, xv, .slice ao2 ts.length cap2] w (SwEnd P w (swS h ts n)) := by
  obtain ⟨ao, cap, rfl, hcap, hwn, _⟩ := ht.var
  unfold maxLen at hcap hc2
  obtain ⟨aox, capx, rfl, hcx, hcm⟩ := hr.form
  unfold maxLen at hcm
  have HT := Lib.hid ht
  have HR := Lib.hid hr
  have HTS := Lib.hid hts
  have HP := Lib.hid hP
  have HWN := Lib.hid hwn
  clear ht hr hts hP
  go_enter Tryd.func31, Tryd.ntmps31
  go_wp2
  obtain ⟨W, hW⟩ : ∃ W, W = (w.alloc (.cells #[.int .i64 0, .int .i64 n, .string ⟨#[]⟩, .slice ao 0 cap] 40)).alloc (.cells #[.int .i64 0, .int .i64 0, .string ⟨#[]⟩, .slice none 0 0] 40) := ⟨_, rfl⟩
  have hBW : Hid (Below w.heap.size w W) := by rw [hW]; exact ((Below.refl _ _).alloc (Nat.le_refl _) _).alloc (by simp) _
  have hZW : Hid (W.heap[w.heap.size]? = some (.cells #[.int .i64 0, .int .i64 n, .string ⟨#[]⟩, .slice ao 0 cap] 40 (0, 0))) := by rw [hW]; exact (heap_alloc_old _ _ (by simp)).trans (heap_alloc_new w _)
  have hZ2 : Hid (W.heap[w.heap.size + 1]? = some (.cells #[.int .i64 0, .int .i64 0, .string ⟨#[]⟩, .slice none 0 0] 40 (0, 0))) := by rw [hW]; exact heap_new2 w _ _
  rw [← hW]
  clear hW
  go_loopg [7] h.length (fun gk s7 wr => SwLoop n W h ts gk s7 wr)
  case atStart => exact ⟨0, rfl, by omega, rfl, Below.refl _ _⟩
  case round =>
    obtain ⟨i, rfl, hik, hpk, hbi⟩ := hrel
    have hbw := hBW.out.size
    have zi := (hbi.block _ (lt_of_block hZW.out)).trans hZW.out
    have z2 := (hbi.block _ (lt_of_block hZ2.out)).trans hZ2.out
    obtain ⟨d0, d1, d2, d3, d4⟩ := hdr4_cells zi
    obtain ⟨e0, e1, e2, e3, e4⟩ := hdr4_cells z2
    have ZI := Lib.hid zi
    have Z2 := Lib.hid z2
    have HB0 : Hid (Below w.heap.size w wr) := hBW.out.trans (hbi.mono hbw)
    have HRI := Lib.hid (HR.out.below HB0.out)
    have HPK := Lib.hid hpk
    have HBI := Lib.hid hbi
    clear zi z2 hpk hbi
    have g0 : (0 : Int) ≤ (i : Int) := by omega
    by_cases hlt : i < h.length ∧ i < ts.length
    · obtain ⟨hl1, hl2⟩ := hlt
      have g1 : (i : Int) < (h.length : Int) := by omega
      have g2 : (i : Int) < (ts.length : Int) := by omega
      obtain ⟨y, hy⟩ : ∃ y, h[i]? = some y := ⟨_, List.getElem?_eq_getElem hl1⟩
      obtain ⟨tk, htk⟩ : ∃ u, ts[i]? = some u := ⟨_, List.getElem?_eq_getElem hl2⟩
      obtain ⟨g, og, rfl, hg, hc⟩ := HRI.out.at hy
      obtain ⟨bb, oo, rfl, hbb⟩ := HTS.out.addr htk
      obtain ⟨_, ak, ck, p0, p1, p2, p3, hvk⟩ := HTS.out.cells htk
      rw [Nat.zero_add] at p0 p1 p2 p3
      have hbn := HP.out _ hbb
      replace p0 := (HB0.out.cell (p := ⟨bb, oo + i * 4, none⟩) hbn).trans p0
      replace p1 := (HB0.out.cell (p := ⟨bb, oo + i * 4 + 1, none⟩) hbn).trans p1
      replace p2 := (HB0.out.cell (p := ⟨bb, oo + i * 4 + 2, none⟩) hbn).trans p2
      replace p3 := (HB0.out.cell (p := ⟨bb, oo + i * 4 + 3, none⟩) hbn).trans p3
      have HPD := Lib.hid (pick_drop (n := n) hy htk)
      have HVK := Lib.hid (hvk.below HB0.out HP.out)
      clear hy htk hg hvk hbn hbb hl1 hl2
      by_cases hyn : y = n
      · subst hyn
        rw [if_pos rfl] at HPD
        have hres : Hid (swS h ts y = tk) := by show _ = _; unfold swS; rw [HPK.out, HPD.out]; rfl
        go_wp2
        go_quiet (fail)
        go_wp2
        obtain ⟨z1, z2⟩ := four_ret (y0 := .int .i64 tk.op) (y1 := .int .i64 tk.num) (y2 := .string tk.text) (y3 := .slice ak tk.kids.length ck) (show (wr.drewN nq).heap[w.heap.size + 1]? = _ from Z2.out)
        generalize ((((World.setCell _ _ _).setCell _ _).setCell _ _).setCell _ _) = wz at z1 z2 ⊢
        obtain ⟨q0, q1, q2, q3, _⟩ := hdr4_cells z1
        refine bodyPost_ret (v := .agg #[.int .i64 tk.op, .int .i64 tk.num, .string tk.text, .slice ak tk.kids.length ck]) (by simp [results, Tryd.results31, go_sem, q0, q1, q2, q3]) rfl ?_
        rw [hres.out]
        exact sw_end (below_drewN HB0.out _) z2 ((HVK.out.below (below_drewN (Below.refl wr.heap.size wr) nq) (fun b hb => by have := HP.out b hb; have := HB0.out.size; omega))) HP.out
      · have hyb : (y == n) = false := by simpa using hyn
        rw [if_neg hyn] at HPD
        clear hyn
        go_wp2
        go_quiet (fail)
        go_wp2
        go_roundg (gk - 1)
        case measure => omega
        case rel => exact ⟨i + 1, by go_num, by omega, by rw [HPK.out, HPD.out], below_drewN HBI.out _⟩
    · have hres : Hid (swS h ts n = .var n) := by show _ = _; unfold swS; rw [HPK.out, pick_none (by omega)]; rfl
      by_cases hl1 : i < h.length
      · have g1 : (i : Int) < (h.length : Int) := by omega
        have g2 : ¬ (i : Int) < (ts.length : Int) := by omega
        clear hlt
        go_wp2
        obtain ⟨z1, z2⟩ := four_ret (y0 := .int .i64 0) (y1 := .int .i64 n) (y2 := .string ⟨#[]⟩) (y3 := .slice ao 0 cap) (show (wr).heap[w.heap.size + 1]? = _ from Z2.out)
        generalize ((((World.setCell _ _ _).setCell _ _).setCell _ _).setCell _ _) = wz at z1 z2 ⊢
        obtain ⟨q0, q1, q2, q3, _⟩ := hdr4_cells z1
        refine bodyPost_ret (v := .agg #[.int .i64 0, .int .i64 n, .string ⟨#[]⟩, .slice ao 0 cap]) (by simp [results, Tryd.results31, go_sem, q0, q1, q2, q3]) rfl ?_
        rw [hres.out]
        exact sw_end (HB0.out) z2 (u := .var n) (HT.out.below HB0.out HP.out) HP.out
      · have g1 : ¬ (i : Int) < (h.length : Int) := by omega
        clear hlt
        go_wp2
        obtain ⟨z1, z2⟩ := four_ret (y0 := .int .i64 0) (y1 := .int .i64 n) (y2 := .string ⟨#[]⟩) (y3 := .slice ao 0 cap) (show (wr).heap[w.heap.size + 1]? = _ from Z2.out)
        generalize ((((World.setCell _ _ _).setCell _ _).setCell _ _).setCell _ _) = wz at z1 z2 ⊢
        obtain ⟨q0, q1, q2, q3, _⟩ := hdr4_cells z1
        refine bodyPost_ret (v := .agg #[.int .i64 0, .int .i64 n, .string ⟨#[]⟩, .slice ao 0 cap]) (by simp [results, Tryd.results31, go_sem, q0, q1, q2, q3]) rfl ?_
        rw [hres.out]
        exact sw_end (HB0.out) z2 (u := .var n) (HT.out.below HB0.out HP.out) HP.out
end Go.Proofs.YthchkekegkhanaaDoor
/- Rows of types that are made, of old types and new ones. -/
namespace Go.Proofs.YthchkekegkhanaaDoor
open Go.RowKit Go.Maps
set_option linter.unusedVariables false

/-- A row of types that is being made: its parts lie in the blocks of O or in new ones. -/
def ARow (T : TypeId) (O : Nat → Prop) (w : World) (base : Nat) (v : Value) (l : List Ty) : Prop :=
  ∃ ps : List (Option Addr × Nat), ps.length = l.length ∧ RowZ w T 4 v l.length (tcells l ps) ∧ (∀ k, v.ownBlock = some k → base ≤ k) ∧
    ∀ (i : Nat) (t : Ty) (p : Option Addr × Nat), l[i]? = some t → ps[i]? = some p → TyIs w (fun b => (O b ∨ base ≤ b) ∧ b < w.heap.size ∧ v.ownBlock ≠ some b) t (tval t p.1 p.2)
section
variable {T : TypeId} {O : Nat → Prop} {w w' : World} {base : Nat} {v : Value} {l : List Ty}
theorem ARow.nil (w : World) (base : Nat) : ARow T O w base (.slice none 0 0) [] := ⟨[], rfl, RowZ.nil _ _ _, fun k h => by simp [Value.ownBlock] at h, fun i t p h => by cases h⟩
/-- New blocks, and turns elsewhere. -/
theorem ARow.below (h : ARow T O w base v l) (hb : Below w.heap.size w w') : ARow T O w' base v l := by
  obtain ⟨ps, h1, h2, h3, h4⟩ := h
  refine ⟨ps, h1, h2.below hb (fun k hk => h2.lt hk), h3, fun i t p ht hp => ?_⟩
  exact ((h4 i t p ht hp).below hb (fun b hb => hb.2.1)).mono fun b hb' => ⟨hb'.1, Nat.lt_of_lt_of_le hb'.2.1 hb.size, hb'.2.2⟩
theorem ARow.kids (h : ARow T O w base v l) : ∃ ao cap, v = .slice ao l.length cap ∧ l.length ≤ cap ∧ cap ≤ maxLen ∧ (ao = none → cap = 0) ∧ TysAt w (fun b => (O b ∨ base ≤ b) ∧ b < w.heap.size) l ao 0 := by
  obtain ⟨ps, h1, h2, h3, h4⟩ := h
  obtain ⟨ao, cap, rfl, hle, hm, hn, hs⟩ := h2.form
  refine ⟨ao, cap, rfl, hle, hm, fun e => (hn e).2, TysAt.mk fun i t ht => ?_⟩
  have hil := (List.getElem?_eq_some_iff.1 ht).1
  obtain ⟨p, hp⟩ : ∃ p, ps[i]? = some p := ⟨_, List.getElem?_eq_getElem (by omega)⟩
  cases ao with
  | none => have := (hn rfl).1; omega
  | some a =>
    obtain ⟨g, rfl, hg, hgb⟩ := hs a rfl
    have hlen := tcells_length h1
    have c : ∀ r, r < 4 → w.cell? ⟨g, i * 4 + r, none⟩ = (tcell t p)[r]? := fun r hr => by
      rw [← tcells_get ht hp hr]
      exact h2.cellAt _ (by rw [hlen]; omega)
    refine ⟨g, 0, _, _, _, _, rfl, ⟨.inr (h3 g hgb), hg⟩, ?_, ?_, ?_, ?_, (h4 i t p ht hp).mono fun b hb => ⟨hb.1, hb.2.1⟩⟩
    · rw [Nat.zero_add, Nat.zero_add]; exact c 0 (by omega)
    · rw [Nat.zero_add, Nat.zero_add]; exact c 1 (by omega)
    · rw [Nat.zero_add, Nat.zero_add]; exact c 2 (by omega)
    · rw [Nat.zero_add, Nat.zero_add]; exact c 3 (by omega)
theorem ARow.form (h : ARow T O w base v l) : ∃ ao cap, v = .slice ao l.length cap := by
  obtain ⟨ao, cap, h1, _⟩ := h.kids
  exact ⟨ao, cap, h1⟩
theorem ARow.lt (h : ARow T O w base v l) {k : Nat} (hk : v.ownBlock = some k) : base ≤ k ∧ k < w.heap.size := by
  obtain ⟨ps, h1, h2, h3, h4⟩ := h
  exact ⟨h3 k hk, h2.lt hk⟩
theorem ARow.chg {F : List Nat} (h : ARow T O w base v l) (hc : Chg F w w') (hF : ∀ k ∈ F, k < base ∧ ¬ O k) : ARow T O w' base v l := by
  obtain ⟨ps, h1, h2, h3, h4⟩ := h
  refine ⟨ps, h1, h2.chg hc (fun k hk hm => by have := h3 k hk; have := hF k hm; omega), h3, fun i t p ht hp => ?_⟩
  exact ((h4 i t p ht hp).chg hc (fun b hb => ⟨hb.2.1, fun hm => by
    obtain ⟨f1, f2⟩ := hF b hm
    rcases hb.1 with e | e
    · exact f2 e
    · omega⟩)).mono fun b hb' => ⟨hb'.1, Nat.lt_of_lt_of_le hb'.2.1 hc.size, hb'.2.2⟩
end
theorem ARow.grown {T : TypeId} {O : Nat → Prop} {w w' : World} {base g cap : Nat} {v : Value} {l : List Ty} {ps : List (Option Addr × Nat)} {t : Ty} {p : Option Addr × Nat} (h1 : ps.length = l.length) (h3 : ∀ k, v.ownBlock = some k → base ≤ k) (hbase : base ≤ w.heap.size)
    (h4 : ∀ (i : Nat) (t : Ty) (p : Option Addr × Nat), l[i]? = some t → ps[i]? = some p → TyIs w (fun b => (O b ∨ base ≤ b) ∧ b < w.heap.size ∧ v.ownBlock ≠ some b) t (tval t p.1 p.2))
    (hlt : ∀ k, v.ownBlock = some k → k < w.heap.size)
    (ht : TyIs w (fun b => (O b ∨ base ≤ b) ∧ b < w.heap.size ∧ v.ownBlock ≠ some b) t (tval t p.1 p.2))
    (hr : RowZ w' T 4 (.slice (some ⟨g, 0, none⟩) (l.length + 1) cap) (l.length + 1) (tcells l ps ++ tcell t p)) (hg : w.grownBy w' v.ownBlock) (hl : v.ownBlock = some g ∨ g = w.heap.size) :
    ARow T O w' base (.slice (some ⟨g, 0, none⟩) (l.length + 1) cap) (l ++ [t]) ∧ TStep w v w' (.slice (some ⟨g, 0, none⟩) (l.length + 1) cap) := by
  have hc : Chg v.ownBlock.toList w w' := (Chg.refl _ w).grown hg (fun k hk => .inl (by simp [hk]))
  have hsz := hc.size
  have hgl : g < w'.heap.size := hr.lt rfl
  have keep : ∀ {u : Ty} {x : Value}, TyIs w (fun b => (O b ∨ base ≤ b) ∧ b < w.heap.size ∧ v.ownBlock ≠ some b) u x → TyIs w' (fun b => (O b ∨ base ≤ b) ∧ b < w'.heap.size ∧ (Value.slice (some ⟨g, 0, none⟩) (l.length + 1) cap).ownBlock ≠ some b) u x := fun hv =>
    (hv.chg hc (fun b hb => ⟨hb.2.1, by simpa using hb.2.2⟩)).mono fun b hb => ⟨hb.1, by omega, by
      simp only [Value.ownBlock, ne_eq, Option.some.injEq]
      rintro rfl
      rcases hl with e | e
      · exact hb.2.2 e
      · omega⟩
  refine ⟨⟨ps ++ [p], by simp [h1], ?_, fun k hk => ?_, fun i u q hu hq => ?_⟩, hc, ?_⟩
  · rw [tcells_snoc h1, List.length_append]; exact hr
  · simp only [Value.ownBlock, Option.some.injEq] at hk
    subst hk
    rcases hl with e | e
    · exact h3 _ e
    · omega
  · by_cases hi : i < l.length
    · rw [List.getElem?_append_left hi] at hu
      rw [List.getElem?_append_left (by omega)] at hq
      exact keep (h4 i u q hu hq)
    · have : i = l.length := by
        have := (List.getElem?_eq_some_iff.1 hu).1
        simp at this; omega
      subst this
      rw [List.getElem?_append_right (Nat.le_refl _), Nat.sub_self] at hu
      rw [List.getElem?_append_right (by omega), h1, Nat.sub_self] at hq
      cases hu; cases hq
      exact keep ht
  · rcases hl with e | e
    · exact .inl e.symm
    · exact .inr ⟨g, rfl, by omega⟩

section
variable {w : World} {ops : Array Oper} {o : Oper} {a : Act} {Q : Exit → Act → World → Prop}
theorem step_appq {K : Act → World → Prop} {E : Prop} (hgd : o.guard = none) (s x : Operand) (L T : TypeId) (ho : o.op = .call { callee := .builtin .append, args := #[s, x], argTypes := #[L, L] })
    (hT : Tryd.prog.underlying L = some (.slice T)) (hi : (Tryd.prog.info? T).map (fun i => (i.zero, i.size, i.bytes)) = some (some (.agg #[.int .i64 0, .int .i64 0, .string ⟨#[]⟩, .slice none 0 0]), 4, 56))
    {O : Nat → Prop} {base : Nat} {v : Value} {l : List Ty} (hs : a.eval s = v) (hr : ARow T O w base v l) {t : Ty} {p : Option Addr × Nat} {ad : Addr} {c : Nat} (hx : a.eval x = .slice (some ad) 1 c)
    (hnews : ∀ j u, (tcell t p)[j]? = some u → w.cell? (ad.add j) = some u) (ht : TyIs w (fun b => (O b ∨ base ≤ b) ∧ b < w.heap.size ∧ v.ownBlock ≠ some b) t (tval t p.1 p.2)) (hN : base ≤ w.heap.size) (h63 : l.length ≤ 1000000)
    (h : ∀ g cap w', ARow T O w' base (.slice (some ⟨g, 0, none⟩) (l.length + 1) cap) (l ++ [t]) → TStep w v w' (.slice (some ⟨g, 0, none⟩) (l.length + 1) cap) → K (a.put o.dst (.slice (some ⟨g, 0, none⟩) (l.length + 1) cap)) w') : if Region.wanted o (yielded ops a.tmps) = true then Oper.wp Tryd.prog o a w K Q else E := by
  obtain ⟨ps, k1, k2, k3, k4⟩ := hr
  obtain ⟨i0, hi, hz0, hz1, hz2⟩ := info_parts hi
  refine step_append_lies w hgd s x L ho 0 T i0 _ 4 56 hT hi hz0 hz1 hz2 rfl (by decide) v l.length (tcells l ps) hs k2 ad 1 c (tcell t p) hx rfl hnews (tcell_one _ _) (by omega) (by unfold maxLen; omega) (by omega) (Nat.zero_le _) w.heap.size rfl ?_
  intro g cap w' hown' hgr hloc _
  obtain ⟨n1, n2⟩ := ARow.grown k1 k3 hN k4 (fun k hk => k2.lt hk) ht hown' hgr (by rcases hloc with e | e; exact .inl e; exact .inr e)
  exact h g cap w' n1 n2
end
end Go.Proofs.YthchkekegkhanaaDoor
/- The reference's Swap: all the way down. -/
namespace Go.Proofs.YthchkekegkhanaaDoor
open Go.RowKit Go.Maps
set_option linter.unusedVariables false

section
variable {T : TypeId} {P : Nat → Prop} {W wr w5 w6 : World} {v v' x : Value} {l li : List Ty}
theorem appq_row {base : Nat} (h : ARow T P wr base v l) (hb : Below wr.heap.size wr w5) (o : Obj) : ARow T P (w5.alloc o) base v l := (h.below hb).below ((Below.refl _ _).alloc (Nat.le_refl _) o)
theorem appq_new {t : Ty} {M : Nat} (h : ARow T P wr W.heap.size v l) (hs : W.heap.size ≤ wr.heap.size) (hM : wr.heap.size ≤ M) (hP : ∀ b, P b → b < W.heap.size) (hv : TyIs w5 (fun b => P b ∨ (M ≤ b ∧ b < w5.heap.size)) t x) (o : Obj) (h5 : wr.heap.size ≤ w5.heap.size) :
    TyIs (w5.alloc o) (fun b => (P b ∨ W.heap.size ≤ b) ∧ b < (w5.alloc o).heap.size ∧ v.ownBlock ≠ some b) t x :=
  (hv.below ((Below.refl _ _).alloc (Nat.le_refl _) o) (fun b hb => by rcases hb with e | e; have := hP b e; omega; exact e.2)).mono fun b hb => by
    rcases hb with e | e
    · have h1 := hP b e
      refine ⟨.inl e, by simp; omega, fun e2 => ?_⟩
      have := (h.lt e2).1
      omega
    · refine ⟨.inr (by omega), by have := e.2; simp; omega, fun e2 => ?_⟩
      have := (h.lt e2).2
      omega
theorem appq_box {q : Nat} {A : Array Value} {t : TypeId} {o : Obj} (ht : TStep (w5.alloc o) v w6 v') (hz : w5.heap[q]? = some (.cells A t (0, 0))) (h : ARow T P wr W.heap.size v l) (hs : q < W.heap.size) : w6.heap[q]? = some (.cells A t (0, 0)) := by
  have hlt := lt_of_block hz
  refine (ht.1.block _ (by simp; omega) ?_).trans ((heap_alloc_old _ _ hlt).trans hz)
  intro hm
  have := (h.lt (Option.mem_toList.1 hm)).1
  omega
def SwKids (T : TypeId) (P : Nat → Prop) (W : World) (H : Nat) (x0 x1 : Int) (x2 : ByteArray) (l : List Ty) (gk : Nat) (s9 : Value) (wr : World) : Prop :=
  ∃ (i : Nat) (v : Value), s9 = .int .i64 i ∧ i + gk = l.length ∧ wr.heap[H]? = some (.cells #[.int .i64 x0, .int .i64 x1, .string x2, v] T (0, 0)) ∧ ARow T P wr W.heap.size v (l.take i) ∧ Chg [H] W wr
theorem appq_next {q g6 cap6 cr : Nat} {ar : Option Addr} {x0 x1 : Int} {x2 : ByteArray} {tk : Ty} {i gk : Nat} {o : Obj} (hli : li = l.take i) (htk : l[i]? = some tk) (hik : i + gk = l.length) (hlt : i < l.length) (hc : Chg [q] W wr) (hq : ¬ P q)
    (hr : ARow T P wr W.heap.size (.slice ar li.length cr) li) (h5 : Below wr.heap.size wr w5) (ht : TStep (w5.alloc o) (.slice ar li.length cr) w6 (.slice (some ⟨g6, 0, none⟩) (li.length + 1) cap6)) (h6 : ARow T P w6 W.heap.size (.slice (some ⟨g6, 0, none⟩) (li.length + 1) cap6) (li ++ [tk]))
    (hz : w6.heap[q]? = some (.cells #[.int .i64 x0, .int .i64 x1, .string x2, .slice ar li.length cr] T (0, 0))) (hs : q < W.heap.size) :
    SwKids T P W q x0 x1 x2 l (gk - 1) (.int .i64 ((i : Int) + 1)) (w6.setCell ⟨q, 3, none⟩ (.slice (some ⟨g6, 0, none⟩) (li.length + 1) cap6)) := by
  refine ⟨i + 1, .slice (some ⟨g6, 0, none⟩) (li.length + 1) cap6, by go_num, by omega, (hdr4_set hz).trans rfl, ?_, ?_⟩
  · rw [take_snoc htk, ← hli]
    exact h6.chg (chg1_set _ _ _ _) (by simp; exact ⟨by omega, hq⟩)
  · have e2 : Chg [q] W (w5.alloc o) := (hc.trans (below_chg h5) (fun k hk => by simp at hk)).alloc o
    have e3 : Chg [q] W w6 := e2.trans ht.1 (fun k hk => .inr (by have := (hr.lt (Option.mem_toList.1 hk)).1; exact this))
    exact e3.setCell (.inl (by simp)) _
theorem appq_end {w wz : World} {H cr n : Nat} {ar : Option Addr} (hr : ARow T P wr W.heap.size (.slice ar n cr) l) (hP : ∀ b, P b → b < H) (hz : Chg [H + 1] wr wz) (hb : Below H w wr) (hs : W.heap.size ≤ wr.heap.size) (hw : H + 1 < W.heap.size) :
    l.length ≤ cr ∧ cr ≤ maxLen ∧ (ar = none → cr = 0) ∧ TysAt wz (fun b => P b ∨ (H ≤ b ∧ b < wz.heap.size)) l ar 0 ∧ Below H w wz := by
  obtain ⟨ao, cap, e, h1, h2, h3, h4⟩ := hr.kids
  cases e
  refine ⟨h1, h2, h3, ?_, hb.trans (hz.below (by omega) (by simp))⟩
  refine (h4.chg hz (fun b hb => ⟨hb.2, ?_⟩)).mono fun b hb => ?_
  · rcases hb.1 with e | e
    · have := hP b e; simp; omega
    · simp; omega
  · rcases hb.1 with e | e
    · exact .inl e
    · exact .inr ⟨by omega, Nat.lt_of_lt_of_le hb.2 hz.size⟩
end
set_option maxRecDepth 100000 in
set_option maxHeartbeats 1600000 in
theorem refSwap_walk {h : List Int} {ts : List Ty} {xv : Value} {ao2 : Option Addr} {cap2 : Nat} {P : Nat → Prop} (hc1 : ts.length ≤ cap2) (hc2 : cap2 ≤ maxLen) (hln : h.length ≤ 100000) (k : Nat) : ∀ (t : Ty) (v : Value) (w : World), t.sz ≤ k → t.sz ≤ 100000 → TyIs w P t v → (∀ b, P b → b < w.heap.size) → IntsAt w xv h → TysAt w P ts ao2 0 →
    Calls Tryd.prog 31 #[v, xv, .slice ao2 ts.length cap2] w (SwEnd P w (t.sub (swS h ts))) := by
  induction k with
  | zero => intro t v w hk; have := t.sz_pos; omega
  | succ k ih =>
    intro t v w hk hsz ht hP hr hts
    cases t with
    | var n => rw [Ty.sub]; exact refSwap_var n ht hP hr hts hc1 hc2 hln
    | con c l =>
    have hc2' := hc2
    unfold maxLen at hc2'
    obtain ⟨ao, cap, rfl, hle, hmx, hcsz, _, hk1⟩ := ht.con
    obtain ⟨aox, capx, rfl, hcx, hcm⟩ := hr.form
    unfold maxLen at hcm hmx
    have HK1 := Lib.hid hk1
    have HCS := Lib.hid hcsz
    have HXR := Lib.hid hr
    have HTS := Lib.hid hts
    have HP := Lib.hid hP
    have HKS : Hid (∀ t ∈ l, t.sz ≤ k ∧ t.sz ≤ 100000) := fun t ht => by
      have := Ty.szs_mem ht
      rw [Ty.sz] at hk hsz
      omega
    have HLN : Hid (l.length ≤ 100000) := by
      have := Ty.szs_len l
      rw [Ty.sz] at hsz
      show l.length ≤ 100000
      omega
    have hlen := HLN.out
    have hres : Hid ((Ty.con c l).sub (swS h ts) = .con c (l.map (Ty.sub (swS h ts)))) := by show _ = _; rw [Ty.sub_con]
    clear hk1 hcsz hr hts hP ht hk hsz
    go_enter Tryd.func31, Tryd.ntmps31
    go_wp2
    obtain ⟨W, hW, sW, zA, zB, zC, bW⟩ := three_boxes w #[.int .i64 1, .int .i64 0, .string c, .slice ao l.length cap] #[.int .i64 0, .int .i64 0, .string ⟨#[]⟩, .slice none 0 0] #[.int .i64 1, .int .i64 0, .string c, .slice none 0 0] 40 40 40
    rw [← hW]
    have ZA := Lib.hid zA
    have ZB := Lib.hid zB
    have ZC := Lib.hid zC
    have BW := Lib.hid bW
    have SW := Lib.hid sW
    clear hW sW zA zB zC bW
    have HPW : Hid (∀ b, P b → b < W.heap.size) := fun b hb => by have := HP.out b hb; have := SW.out; omega
    have HL : Hid (SwKids 40 P W (w.heap.size + 1 + 1) 1 0 c (l.map (Ty.sub (swS h ts))) l.length (.int .i64 0) W) := ⟨0, .slice none 0 0, rfl, by simp, ZC.out, ARow.nil _ _, Chg.refl _ _⟩
    go_loopg [9] l.length (fun gk s9 wr => SwKids 40 P W (w.heap.size + 1 + 1) 1 0 c (l.map (Ty.sub (swS h ts))) gk s9 wr)
    case atStart => exact HL.out
    case round =>
      clear HL
      obtain ⟨i, v1, rfl, hik, hz, hr, hc⟩ := hrel
      rw [List.length_map] at hik
      have hsW := SW.out
      have hcs := hc.size
      have hA : wr.heap[w.heap.size]? = some (.cells #[.int .i64 1, .int .i64 0, .string c, .slice ao l.length cap] 40 (0, 0)) := (hc.block w.heap.size (by omega) (by simp; omega)).trans ZA.out
      have hB : wr.heap[w.heap.size + 1]? = some (.cells #[.int .i64 0, .int .i64 0, .string ⟨#[]⟩, .slice none 0 0] 40 (0, 0)) := (hc.block (w.heap.size + 1) (by omega) (by simp)).trans ZB.out
      obtain ⟨li, hli⟩ : ∃ li, li = (l.map (Ty.sub (swS h ts))).take i := ⟨_, rfl⟩
      rw [← hli] at hr
      have HLI := Lib.hid hli
      clear hli
      obtain ⟨ar, cr, rfl⟩ := hr.form
      obtain ⟨a0, a1, a2, a3, a4⟩ := hdr4_cells hA
      obtain ⟨b0, b1, b2, b3, b4⟩ := hdr4_cells hB
      obtain ⟨f0, f1, f2, f3, f4⟩ := hdr4_cells hz
      have HB := Lib.hid hB
      have HZ := Lib.hid hz
      have HR := Lib.hid hr
      have HC := Lib.hid hc
      have BWR : Hid (Below w.heap.size w wr) := BW.out.trans (hc.below (by omega) (by simp; omega))
      clear hA hB hz hr hc a0 a1 a2
      have g0 : (0 : Int) ≤ (i : Int) := by omega
      by_cases hlt : i < l.length
      · have g1 : (i : Int) < (l.length : Int) := by omega
        obtain ⟨tk, htk⟩ : ∃ u, l[i]? = some u := ⟨_, List.getElem?_eq_getElem hlt⟩
        obtain ⟨bb, oo, rfl, hbb⟩ := HK1.out.addr htk
        obtain ⟨_, ak, ck, p0, p1, p2, p3, hvk⟩ := HK1.out.cells htk
        rw [Nat.zero_add] at p0 p1 p2 p3
        have hbn := HP.out _ hbb
        replace p0 := (BWR.out.cell (p := ⟨bb, oo + i * 4, none⟩) hbn).trans p0
        replace p1 := (BWR.out.cell (p := ⟨bb, oo + i * 4 + 1, none⟩) hbn).trans p1
        replace p2 := (BWR.out.cell (p := ⟨bb, oo + i * 4 + 2, none⟩) hbn).trans p2
        replace p3 := (BWR.out.cell (p := ⟨bb, oo + i * 4 + 3, none⟩) hbn).trans p3
        have hba : Below wr.heap.size wr wr.drew := (Below.refl _ _).drew
        have hbd : Below w.heap.size w wr.drew := BWR.out.drew
        have HCALL := Lib.hid (ih tk _ wr.drew (HKS.out tk (List.mem_of_getElem? htk)).1 (HKS.out tk (List.mem_of_getElem? htk)).2 (hvk.below hbd HP.out) (fun b hb => Nat.lt_of_lt_of_le (HP.out b hb) hbd.size) (HXR.out.below hbd) (HTS.out.below hbd HP.out))
        have HTK : Hid ((l.map (Ty.sub (swS h ts)))[i]? = some (tk.sub (swS h ts))) := by show _ = _; rw [List.getElem?_map, htk]; rfl
        have HBA := Lib.hid hba
        have hlen6 : Hid (li.length ≤ 100000) := by show _ ≤ _; rw [HLI.out, List.length_take, List.length_map]; omega
        clear hvk htk hba hbd hbn hbb
        unfold tval SwEnd at HCALL
        generalize tk.sub (swS h ts) = tr at HCALL HTK
        go_wp2
        go_region_law (first
          | (refine step_callw (w := wr.drew) (by rfl) 31 #[.agg #[.int .i64 tk.op, .int .i64 tk.num, .string tk.text, .slice ak tk.kids.length ck], .slice aox h.length capx, .slice ao2 ts.length cap2] ?_ HCALL.out ?_; go_simp; rintro e w15 ⟨ao15, cap15, rfl, hv15, hb15⟩; refine ⟨_, rfl, ?_⟩; replace hb15 : Below wr.heap.size wr w15 := HBA.out.trans (hb15.mono HBA.out.size); have hz15 := (hb15.block _ (lt_of_block HZ.out)).trans HZ.out; obtain ⟨q0, q1, q2, q3, q4⟩ := hdr4_cells hz15; have q5 := (fun o => (later_box hz15 o).1.2.2.2); have B15 := Lib.hid hb15; have V15 := Lib.hid hv15; have Z15 := Lib.hid hz15; clear hb15 hv15 hz15)
          | (refine step_appq (w := w15.alloc (.cells #[.int .i64 tr.op, .int .i64 tr.num, .string tr.text, .slice ao15 tr.kids.length cap15] 40)) (by rfl) _ _ 22 40 rfl Tryd.underlying22 infoR (O := P) (base := W.heap.size) (by rfl) (appq_row HR.out B15.out _) (t := tr) (p := (ao15, cap15)) (ad := ⟨w15.heap.size, 0, none⟩) (c := 1) (by rfl) (cell_four_new _ _ _ _ _ _) (appq_new HR.out HC.out.size HBA.out.size HPW.out V15.out _ B15.out.size) (by have := HC.out.size; have := B15.out.size; simp; omega) (by have := hlen6.out; omega) ?_; intro g16 cap16 w16 hr16 ht16; have hz16 := appq_box ht16 Z15.out HR.out (by have := SW.out; omega); obtain ⟨r0, r1, r2, r3, r4⟩ := hdr4_cells hz16; have R16 := Lib.hid hr16; have T16 := Lib.hid ht16; have Z16 := Lib.hid hz16; clear hr16 ht16 hz16))
        all_goals go_wp2
        all_goals
          go_roundg (gk - 1)
          case measure => omega
          case rel => exact appq_next HLI.out HTK.out (by rw [List.length_map]; omega) (by rw [List.length_map]; omega) HC.out (fun hq => by have := HP.out _ hq; omega) HR.out B15.out T16.out R16.out Z16.out (by have := SW.out; omega)
      · obtain rfl : i = l.length := by omega
        have hlieq : Hid (li = l.map (Ty.sub (swS h ts))) := by show _ = _; rw [HLI.out, List.take_of_length_le (by simp)]
        go_wp2
        obtain ⟨z1, z2⟩ := four_ret (y0 := .int .i64 1) (y1 := .int .i64 0) (y2 := .string c) (y3 := .slice ar li.length cr) HB.out
        generalize ((((World.setCell _ _ _).setCell _ _).setCell _ _).setCell _ _) = wz at z1 z2 ⊢
        obtain ⟨y0, y1, y2, y3, _⟩ := hdr4_cells z1
        refine bodyPost_ret (v := .agg #[.int .i64 1, .int .i64 0, .string c, .slice ar li.length cr]) (by simp [results, Tryd.results31, go_sem, y0, y1, y2, y3]) rfl ?_
        have hr := HR.out
        rw [hlieq.out] at hr
        rw [hres.out, hlieq.out]
        obtain ⟨n1, n2, n3, n4, n5⟩ := appq_end hr HP.out z2 BWR.out HC.out.size (by have := SW.out; omega)
        exact ⟨ar, cr, rfl, TyIs.mk_con n1 n2 HCS.out n3 n4, n5⟩
end Go.Proofs.YthchkekegkhanaaDoor
