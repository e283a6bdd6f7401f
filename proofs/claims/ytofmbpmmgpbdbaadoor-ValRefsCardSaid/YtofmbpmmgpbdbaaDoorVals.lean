/- The small look that every law of val makes. -/
import Derived.Test.YtofmbpmmgpbdbaaDoorText
namespace Go.Proofs.YtofmbpmmgpbdbaaDoor
open Go.RowKit Go.Maps Wr
set_option linter.unusedVariables false

def noF : Nat → List UInt8 := fun _ => []
def T0 : VT := .node 3 2 ⟨#[]⟩ [.node 6 0 ⟨#[]⟩ []]
def T1 : VT := .node 4 0 ⟨#[]⟩ [.node 0 1 ⟨#[]⟩ [], .node 2 0 ⟨#[97, 34, 98]⟩ []]
theorem leaf_is (w : World) (P : Nat → Prop) (k n : Int) (s : ByteArray) (hk : (Lit.int .i64 k).wf = true) (hn : (Lit.int .i64 n).wf = true) (hs : s.size ≤ maxLen) : ValIs w P (.node k n s []) (.agg #[.int .i64 k, .int .i64 n, .string s, .slice none 0 0]) := by
  unfold ValIs
  exact ⟨none, 0, rfl, Nat.le_refl _, by unfold maxLen; omega, hs, hk, hn, fun _ => rfl, by unfold KidsAt; trivial⟩
theorem t0_right : T0.right 1 = true := by
  simp [T0, VT.right_node, VT.rights_cons, VT.rights_nil, fitsB, emptyB]
  rfl
theorem num_2 : num 2 = [4] := by simp [num, zig, var]
theorem t0_enc : T0.enc = [6, 4, 2, 12] := by
  simp [T0, VT.enc, VT.encs, topOf, num, zig, var]
theorem t1_right : T1.right 1 = true := by
  simp [T1, VT.right_node, VT.rights_cons, VT.rights_nil, fitsB, emptyB, wr]
  exact ⟨rfl, by decide⟩
theorem t1_txt : T1.txt noF = [40, 49, 44, 34, 97, 92, 34, 98, 34, 41] := by
  simp [T1, VT.txt, VT.txts, topTxt, Lib.itoa, Lib.decDigits, wr, quoteB, qb, Lib.join, List.intercalate]
theorem sz_max (s : ByteArray) (h : s.size ≤ 10) : s.size ≤ maxLen := by unfold maxLen; omega
theorem t0_is (w : World) : ValIs (w.alloc (.cells #[.int .i64 6, .int .i64 0, .string ⟨#[]⟩, .slice none 0 0] 24)) (fun b => b < w.heap.size + 1) T0 (.agg #[.int .i64 3, .int .i64 2, .string ⟨#[]⟩, .slice (some ⟨w.heap.size, 0, none⟩) 1 1]) := by
  unfold T0 ValIs
  refine ⟨_, _, rfl, Nat.le_refl _, by unfold maxLen; omega, sz_max _ (by decide), by decide, by decide, (fun h => by cases h), ?_⟩
  unfold KidsAt KidsAt
  refine ⟨⟨w.heap.size, 0, .int .i64 6, .int .i64 0, .string ⟨#[]⟩, .slice none 0 0, rfl, by omega, by simp, by simp, by simp, by simp, leaf_is _ _ 6 0 ⟨#[]⟩ (by decide) (by decide) (sz_max _ (by decide))⟩, trivial⟩
theorem t1_is (w : World) : ValIs (w.alloc (.cells #[.int .i64 0, .int .i64 1, .string ⟨#[]⟩, .slice none 0 0, .int .i64 2, .int .i64 0, .string ⟨#[97, 34, 98]⟩, .slice none 0 0] 24)) (fun b => b < w.heap.size + 1) T1 (.agg #[.int .i64 4, .int .i64 0, .string ⟨#[]⟩, .slice (some ⟨w.heap.size, 0, none⟩) 2 2]) := by
  unfold T1 ValIs
  refine ⟨_, _, rfl, Nat.le_refl _, by unfold maxLen; omega, sz_max _ (by decide), by decide, by decide, (fun h => by cases h), ?_⟩
  unfold KidsAt KidsAt KidsAt
  refine ⟨⟨w.heap.size, 0, .int .i64 0, .int .i64 1, .string ⟨#[]⟩, .slice none 0 0, rfl, by omega, by simp, by simp, by simp, by simp, leaf_is _ _ 0 1 ⟨#[]⟩ (by decide) (by decide) (sz_max _ (by decide))⟩,
    ⟨w.heap.size, 0, .int .i64 2, .int .i64 0, .string ⟨#[97, 34, 98]⟩, .slice none 0 0, rfl, by omega, by simp, by simp, by simp, by simp, leaf_is _ _ 2 0 ⟨#[97, 34, 98]⟩ (by decide) (by decide) (sz_max _ (by decide))⟩, trivial⟩
theorem t0_enc2 : encErr T0 = 0 ∧ encBytes T0 = [6, 4, 2, 12] := by
  have h := encErr_ok t0_right (by rw [t0_enc]; decide)
  rw [t0_enc] at h
  exact h

set_option maxRecDepth 100000 in
theorem vals_any (w : World) (hT : Tab w) : Calls Tryd.prog 13 #[] w fun e w' => e = .returned (.bool true) ∧ Below w.heap.size w w' := by
  have HE : Hid (∀ w : World, Calls Tryd.prog 12 #[.agg #[.int .i64 3, .int .i64 2, .string ⟨#[]⟩, .slice (some ⟨w.heap.size, 0, none⟩) 1 1]] (w.alloc (.cells #[.int .i64 6, .int .i64 0, .string ⟨#[]⟩, .slice none 0 0] 24)) (EncEnd (w.alloc (.cells #[.int .i64 6, .int .i64 0, .string ⟨#[]⟩, .slice none 0 0] 24)) T0)) :=
    fun w => encode_any T0 _ _ _ (t0_is w) (fun b hb => by simp; omega)
  have HX : Hid (∀ w1 : World, Below w.heap.size w w1 → Calls Tryd.prog 17 #[.agg #[.int .i64 4, .int .i64 0, .string ⟨#[]⟩, .slice (some ⟨w1.heap.size, 0, none⟩) 2 2]] (w1.alloc (.cells #[.int .i64 0, .int .i64 1, .string ⟨#[]⟩, .slice none 0 0, .int .i64 2, .int .i64 0, .string ⟨#[97, 34, 98]⟩, .slice none 0 0] 24))
      fun e w' => e = .returned (.string ⟨#[40, 49, 44, 34, 97, 92, 34, 98, 34, 41]⟩) ∧ Below (w1.heap.size + 1) (w1.alloc (.cells #[.int .i64 0, .int .i64 1, .string ⟨#[]⟩, .slice none 0 0, .int .i64 2, .int .i64 0, .string ⟨#[97, 34, 98]⟩, .slice none 0 0] 24)) w') := by
    intro w1 hw
    have := text_walk noF false w hT (fun h => by cases h) T1.sz T1 _ _ _ 1 (Nat.le_refl _) t1_right (.inr (by rfl)) (t1_is w1) (fun b hb => by simp; omega) (hw.trans (((Below.refl _ _).alloc (Nat.le_refl _) _).mono hw.size)) (by rw [t1_txt]; decide)
    rw [t1_txt] at this
    exact this.mono fun e w' h => ⟨h.1, by simpa using h.2⟩
  have HZ := Lib.hid t0_enc2
  go_enter Tryd.func13, Tryd.ntmps13
  go_wp2_with (first
    | (go_at_call 12; refine (HE.out w).mono ?_; rintro e w5 ⟨v5, rfl, hr5, hb5⟩; rw [HZ.out.1]; rw [HZ.out.2] at hr5; have hcv0 := run_row_str hr5 (by simp); have hcv : (convert 29 9 v5).run Tryd.prog w5 = .ok (.string ⟨#[6, 4, 2, 12]⟩) w5 := hcv0; clear hcv0; have H5 : Hid (Below w.heap.size w w5) := ((Below.refl _ _).alloc (Nat.le_refl _) _).trans (hb5.mono (by simp)); clear hr5 hb5)
    | (go_at_call 17; refine (HX.out w5 H5.out).mono ?_; rintro e w7 ⟨rfl, hb7⟩; have H7 : Hid (Below w.heap.size w w7) := (H5.out.trans (((Below.refl _ _).alloc (Nat.le_refl _) _).mono H5.out.size)).trans (hb7.mono (by have := H5.out.size; omega)); clear hb7))
  all_goals
    go_ret
    exact ⟨by rfl, H7.out⟩
end Go.Proofs.YtofmbpmmgpbdbaaDoor
