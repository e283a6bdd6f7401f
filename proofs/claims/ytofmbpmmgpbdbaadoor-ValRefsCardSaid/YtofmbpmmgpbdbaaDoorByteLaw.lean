/- The law of a value's bytes: the walk. -/
import Derived.Test.YtofmbpmmgpbdbaaDoorTop
import Derived.Test.YtofmbpmmgpbdbaaDoorSame
namespace Go.Proofs.YtofmbpmmgpbdbaaDoor
open Go.RowKit Go.Maps Wr
set_option linter.unusedVariables false

/-- 'string(b)' of any row of bytes. -/
theorem run_row_any {w : World} {N : Nat} {v : Value} {b : List UInt8} (h : ByteRow w N v b) : (convert 29 9 v).run Tryd.prog w = .ok (.string (bytes b)) w := by
  cases b with
  | cons c l => exact run_row_str h (by simp)
  | nil =>
    rcases h.1.shape with ⟨rfl, h0⟩ | ⟨g, cap, rfl, _, _, _⟩
    · exact run_convert_bytes_nil w 29 5 Tryd.underlying29 Tryd.underlying5 0 0 9 Tryd.underlying9
    · exact run_convert_bytes_back (P := Tryd.prog) w 29 9 5 ⟨g, 0, none⟩ cap [] Tryd.underlying29 Tryd.underlying5 Tryd.underlying9 (fun j hj => absurd hj (by simp))

/-- A box of a value that is there. -/
def Boxed (w : World) (q : Nat) (v0 v1 v2 v3 : Value) : Prop := (w.cell? ⟨q, 0, none⟩ = some v0 ∧ w.cell? ⟨q, 1, none⟩ = some v1 ∧ w.cell? ⟨q, 2, none⟩ = some v2 ∧ w.cell? ⟨q, 3, none⟩ = some v3) ∧ ∀ j, w.frozen? ⟨q, j, none⟩ = false
theorem boxed_of {w : World} {q : Nat} {a b c d : Value} {t : TypeId} (h : w.heap[q]? = some (.cells #[a, b, c, d] t (0, 0))) : Boxed w q a b c d := by
  constructor
  · simp [World.cell?, h]
  · intro j; simp [World.frozen?, h]
theorem boxed_below {w w' : World} {M q : Nat} {a b c d : Value} (h : Boxed w q a b c d) (hb : Below M w w') (hq : q < M) : Boxed w' q a b c d :=
  ⟨⟨(hb.cell (p := ⟨q, 0, none⟩) hq).trans h.1.1, (hb.cell (p := ⟨q, 1, none⟩) hq).trans h.1.2.1, (hb.cell (p := ⟨q, 2, none⟩) hq).trans h.1.2.2.1, (hb.cell (p := ⟨q, 3, none⟩) hq).trans h.1.2.2.2⟩, fun j => (hb.frozen (p := ⟨q, j, none⟩) hq).trans (h.2 j)⟩

set_option maxRecDepth 100000 in
set_option maxHeartbeats 1600000 in
theorem valBytes_walk (t : VT) (vt : Value) (w : World) (P : Nat → Prop) (hT : Tab w) (hv : ValIs w P t vt) (hP : ∀ x, P x → x < w.heap.size) : Calls Tryd.prog 3 #[vt] w fun e w' => e = .returned (.bool true) ∧ Below w.heap.size w w' := by
  have HT := Lib.hid hT
  have hv0 := hv
  obtain ⟨u, hu⟩ : ∃ u, topTame t = u := ⟨_, rfl⟩
  have huu : topTame u = u := by rw [← hu, topTame_twice]
  have HUU := Lib.hid huu
  have H1 : Hid (∀ o, Calls Tryd.prog 10 #[vt] (w.alloc o) (TopEnd (w.alloc o) u)) := fun o => by
    have := top_any t vt (w.alloc o) P (hv.below ((Below.refl _ _).alloc (Nat.le_refl _) _) hP) (fun b hb => by have := hP b hb; simp; omega)
    rwa [hu] at this
  obtain ⟨ka, na, sa, la⟩ := t
  unfold ValIs at hv0
  obtain ⟨ao, cap, rfl, a1, a2, a3, a4, a5, a6, a7⟩ := hv0
  clear hv a7 hu hT huu a1 a2 a3 a4 a5 a6 hP
  go_enter Tryd.func3, Tryd.ntmps3
  go_wp2_with (first
    | (go_at_call 10; refine (H1.out _).mono ?_; rintro e w5 ⟨ao5, cap5, rfl, hv5, hb5⟩; clear H1;
       have z5 := (hb5.block w.heap.size (by simp)).trans (heap_alloc_new w _);
       have b5 := boxed_of z5;
       have Z5 := Lib.hid z5;
       obtain ⟨⟨c50, c51, c52, c53⟩, f5⟩ := b5;
       have B5 : Hid (Below w.heap.size w w5) := ((Below.refl _ _).alloc (Nat.le_refl _) _).trans (hb5.mono (by simp));
       have S5 : Hid (w.heap.size + 1 ≤ w5.heap.size) := (by have := hb5.size; show _ ≤ _; simpa using this);
       have V5 : Hid (∀ W, Chg [w.heap.size] w5 W → ValIs W (fun b => w.heap.size + 1 ≤ b ∧ b < w5.heap.size) u (vval u ao5 cap5)) := (fun W hW => (hv5.chg hW (fun b hb => ⟨hb.2, by have := hb.1; simp at this; simp; omega⟩)).mono (fun b hb => ⟨by have := hb.1; simp at this; omega, hb.2⟩));
       clear hb5 hv5 z5)
    | fail)
  have C2 := four_stores (Chg.refl [w.heap.size] w5) (p := w.heap.size) (.inl (by simp)) (.int .i64 u.kind) (.int .i64 u.num) (.string u.text) (.slice ao5 u.kids.length cap5)
  have Z2 := four_stored (y0 := .int .i64 u.kind) (y1 := .int .i64 u.num) (y2 := .string u.text) (y3 := .slice ao5 u.kids.length cap5) Z5.out
  generalize ((((w5.setCell _ _).setCell _ _).setCell _ _).setCell _ _) = W2 at C2 Z2 ⊢
  have HT2 := top_any u (vval u ao5 cap5) W2 _ (V5.out W2 C2) (fun b hb => Nat.lt_of_lt_of_le hb.2 C2.size)
  rw [HUU.out] at HT2
  unfold vval at HT2
  refine HT2.mono ?_
  clear HT2
  rintro e w7 ⟨ao7, cap7, rfl, hv7, hb7⟩
  have hs2 : w.heap.size + 1 ≤ W2.heap.size := Nat.le_trans S5.out C2.size
  have Z7 := (hb7.block w.heap.size (by omega)).trans Z2
  have HG : Hid (∀ W', Below (w7.heap.size + 1) (w7.alloc (.cells #[.int .i64 u.kind, .int .i64 u.num, .string u.text, .slice ao7 u.kids.length cap7] 24)) W' →
      Boxed W' w.heap.size (.int .i64 u.kind) (.int .i64 u.num) (.string u.text) (.slice ao5 u.kids.length cap5) ∧ Boxed W' w7.heap.size (.int .i64 u.kind) (.int .i64 u.num) (.string u.text) (.slice ao7 u.kids.length cap7) ∧
      ValIs W' (fun b => b < w7.heap.size) u (.agg #[.int .i64 u.kind, .int .i64 u.num, .string u.text, .slice ao5 u.kids.length cap5]) ∧ ValIs W' (fun b => b < w7.heap.size) u (.agg #[.int .i64 u.kind, .int .i64 u.num, .string u.text, .slice ao7 u.kids.length cap7]) ∧ Below w.heap.size w W' ∧ Tab W' ∧ w7.heap.size + 1 ≤ W'.heap.size) := by
    intro W' hW
    have h77 : Below w7.heap.size w7 W' := ((Below.refl _ _).alloc (Nat.le_refl _) _).trans (hW.mono (by omega))
    have hw7 : w.heap.size < w7.heap.size := lt_of_block Z7
    have hB : Below w.heap.size w W' := (((B5.out).trans (C2.below B5.out.size (by simp))).trans (hb7.mono (by omega))).trans (h77.mono (by omega))
    refine ⟨boxed_below (boxed_of Z7) h77 hw7, boxed_below (boxed_of (heap_alloc_new w7 _)) hW (by omega), ?_, ?_, hB, HT.out.below hB, by have := hW.size; simpa using this⟩
    · exact (((V5.out W2 C2).below hb7 (fun b hb => Nat.lt_of_lt_of_le hb.2 C2.size)).mono (fun b hb => Nat.lt_of_lt_of_le hb.2 (Nat.le_trans C2.size hb7.size))).below h77 (fun b hb => hb)
    · exact (hv7.mono (fun b hb => hb.2)).below h77 (fun b hb => hb)
  have y0 := (fun o => (later_box Z7 o).1.1)
  have y1 := (fun o => (later_box Z7 o).1.2.1)
  have y2 := (fun o => (later_box Z7 o).1.2.2.1)
  have y3 := (fun o => (later_box Z7 o).1.2.2.2)
  have hne : w7.heap.size ≠ w.heap.size := by have := lt_of_block Z7; omega
  have HS := Lib.hid (VT.same_refl u)
  have HW3 : Hid (Below (w7.heap.size + 1) (w7.alloc (.cells #[.int .i64 u.kind, .int .i64 u.num, .string u.text, .slice ao7 u.kids.length cap7] 24)) (w7.alloc (.cells #[.int .i64 u.kind, .int .i64 u.num, .string u.text, .slice ao7 u.kids.length cap7] 24))) := Below.refl _ _
  clear hb7 hv7 Z2 C2 V5 Z5 Z7 c50 c51 c52 c53 f5
  go_wp2_with (first
    | (go_at_call 11; refine (refEncode_any u _ _ _ (HG.out _ HW3.out).2.2.1 (fun b hb => by have := (HG.out _ HW3.out).2.2.2.2.2.2; omega)).mono ?_; rintro e w9 ⟨rfl, hb9⟩; have G9 := Lib.hid (HW3.out.trans (hb9.mono (by simp))); obtain ⟨⟨⟨c90, c91, c92, c93⟩, _⟩, ⟨⟨d90, d91, d92, d93⟩, _⟩, _⟩ := HG.out w9 G9.out; clear hb9)
    | (go_at_call 12; refine (encode_any u _ w9 _ (HG.out _ G9.out).2.2.1 (fun b hb => by have := (HG.out _ G9.out).2.2.2.2.2.2; omega)).mono ?_; rintro e w11 ⟨v11, rfl, hr11, hb11⟩; have G11 := Lib.hid (G9.out.trans (hb11.mono (by have := (HG.out _ G9.out).2.2.2.2.2.2; omega))); have HR11 := Lib.hid hr11; obtain ⟨⟨⟨c110, c111, c112, c113⟩, _⟩, ⟨⟨d110, d111, d112, d113⟩, _⟩, _⟩ := HG.out w11 G11.out; clear hb11 hr11)
    | (go_at_call 13; refine (vals_any w11 (HG.out _ G11.out).2.2.2.2.2.1).mono ?_; rintro e w13 ⟨rfl, hb13⟩; have G13 := Lib.hid (G11.out.trans (hb13.mono (by have := (HG.out _ G11.out).2.2.2.2.2.2; omega))); have hcv := run_row_any (HR11.out.below hb13); obtain ⟨⟨⟨c130, c131, c132, c133⟩, _⟩, ⟨⟨d130, d131, d132, d133⟩, _⟩, _⟩ := HG.out w13 G13.out; clear hb13)
    | (go_at_call 14; refine (check_any u _ w13 _ (HG.out _ G13.out).2.2.1 (fun b hb => by have := (HG.out _ G13.out).2.2.2.2.2.2; omega)).mono ?_; rintro e w15 ⟨rfl, hb15⟩; have G15 := Lib.hid (G13.out.trans (hb15.mono (by have := (HG.out _ G13.out).2.2.2.2.2.2; omega))); obtain ⟨⟨⟨c150, c151, c152, c153⟩, _⟩, ⟨⟨d150, d151, d152, d153⟩, _⟩, _⟩ := HG.out w15 G15.out; clear hb15)
    | (go_at_call 15; refine (refSame_walk u.sz u u _ _ w15 _ (Nat.le_refl _) (HG.out _ G15.out).2.2.1 (HG.out _ G15.out).2.2.2.1 (fun b hb => by have := (HG.out _ G15.out).2.2.2.2.2.2; omega)).mono ?_; rintro e w17 ⟨rfl, hb17⟩; rw [HS.out]; have G17 := Lib.hid (G15.out.trans (hb17.mono (by have := (HG.out _ G15.out).2.2.2.2.2.2; omega))); clear hb17))
  all_goals
    go_ret
    exact ⟨by rfl, (HG.out _ G17.out).2.2.2.2.1⟩
end Go.Proofs.YtofmbpmmgpbdbaaDoor
