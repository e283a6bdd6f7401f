/- The law of values that come back: the walk. -/
import Derived.Test.YtofmbpmmgpbdbaaDoorReads
import Derived.Test.YtofmbpmmgpbdbaaDoorSameP
namespace Go.Proofs.YtofmbpmmgpbdbaaDoor
open Go.RowKit Go.Maps Wr Go.ChangeShapes Go.WideShapes
set_option linter.unusedVariables false

theorem asEx_inv {α : Type} {p : α × List UInt8 × Int} {a : α} {r : List UInt8} (h : asEx p = .ok (a, r)) : p = (a, r, 0) := by
  obtain ⟨x, y, z⟩ := p
  unfold asEx at h
  split at h
  · rename_i hz
    simp only at hz
    subst hz
    simp only [Except.ok.injEq, Prod.mk.injEq] at h
    obtain ⟨rfl, rfl⟩ := h
    rfl
  · cases h
theorem rv_full {t : VT} (h : t.right 1 = true) (r : List UInt8) : rv 200 (t.enc ++ r) = (t, r, 0) := by
  have := rdVal_full 200 t 1 r h (by omega)
  rw [rv_eq] at this
  exact asEx_inv this
theorem dec_enc {t : VT} (h : t.right 1 = true) (hl : ¬ 16384 < t.enc.length) : dec t.enc = (t, 0) := by
  have := rv_full h []
  rw [List.append_nil] at this
  have h2 := dec_ok hl (by rw [this]) (by rw [this]) (by rw [this]; exact h)
  rw [h2, this]
theorem dec_cut {t : VT} (h : t.right 1 = true) (m : Nat) (hm : m < t.enc.length) : dec (t.enc.take m) = (.node 0 0 ⟨#[]⟩ [], 2) := by
  by_cases hb : 16384 < (t.enc.take m).length
  · exact dec_big hb
  · refine dec_no hb ?_
    rintro ⟨h0, h1, h2⟩
    have he := rv_enc h0 h1
    have hf := rv_full h2 (t.enc.drop m)
    rw [he, List.take_append_drop] at hf
    have hg := rv_full h []
    rw [List.append_nil, hf] at hg
    have : t.enc.drop m = [] := (congrArg (fun p => p.2.1) hg)
    have := congrArg List.length this
    rw [List.length_drop, List.length_nil] at this
    omega
theorem dec_more {t : VT} (h : t.right 1 = true) (c : UInt8) : dec (t.enc ++ [c]) = (.node 0 0 ⟨#[]⟩ [], 2) := by
  by_cases hb : 16384 < (t.enc ++ [c]).length
  · exact dec_big hb
  · refine dec_no hb ?_
    rintro ⟨h0, h1, h2⟩
    rw [rv_full h [c]] at h1
    cases h1

theorem err_zero {t : VT} (h : encErr t = 0) : t.right 1 = true ∧ ¬ 16384 < t.enc.length := by
  unfold encErr at h
  split at h
  · rename_i h1
    split at h
    · rename_i h2; exact ⟨h1, by omega⟩
    · omega
  · omega
theorem law_mod (a : Int) (n : Nat) (h : 0 < n) (h2 : n ≤ 16384) : ∃ m : Nat, IntKind.i64.wrap ((IntKind.u64.wrap a).tmod (n : Int)) = (m : Int) ∧ m < n := by
  have hw : 0 ≤ IntKind.u64.wrap a := by show 0 ≤ a % 18446744073709551616; omega
  have e : (IntKind.u64.wrap a).tmod (n : Int) = IntKind.u64.wrap a % (n : Int) := Int.tmod_eq_emod_of_nonneg hw
  have b0 := Int.emod_nonneg (IntKind.u64.wrap a) (show (n : Int) ≠ 0 by omega)
  have b1 := Int.emod_lt_of_pos (IntKind.u64.wrap a) (show (0 : Int) < (n : Int) by omega)
  rw [e]
  generalize IntKind.u64.wrap a % (n : Int) = x at *
  refine ⟨x.toNat, ?_, by omega⟩
  rw [IntKind.wrap_i64]
  omega
theorem law_byte (a : Int) : ∃ c : UInt8, IntKind.u8.wrap a = (c.toNat : Int) := by
  refine ⟨UInt8.ofNat (IntKind.u8.wrap a).toNat, ?_⟩
  rw [byte_of]
  have e1 : IntKind.u8.min = 0 := by decide
  have e2 : IntKind.u8.max = 255 := by decide
  simp only [Lit.wf, Bool.and_eq_true, decide_eq_true_eq]
  rw [e1, e2, IntKind.wrap_u8]
  omega
theorem BytesIn.take {w : World} {ao : Option Addr} {cap : Nat} {b : List UInt8} (h : BytesIn w (.slice ao b.length cap) b) {m : Nat} (hm : m ≤ b.length) : BytesIn w (.slice ao m cap) (b.take m) := by
  obtain ⟨ao', cap', e, h1, h2, h3, h4⟩ := h
  simp only [Value.slice.injEq, true_and] at e
  obtain ⟨rfl, rfl⟩ := e
  have hl : (b.take m).length = m := by rw [List.length_take]; omega
  refine ⟨ao, cap, by rw [hl], by rw [hl]; omega, h2, h3, fun j hj => ?_⟩
  obtain ⟨g, o, e0, e1, e2⟩ := h4 j (by omega)
  exact ⟨g, o, e0, e1, by rw [List.getElem_take]; exact e2⟩
theorem new_none (w : World) (o : Obj) : ByteRow ((w.alloc o).alloc (.cells #[] 5)) (w.heap.size + 1) (.slice (some ⟨w.heap.size + 1, 0, none⟩) 0 0) [] := by
  have := new_row (w.alloc o) [] #[] rfl (by simp)
  simpa using this
theorem no_end {w w' : World} {b : List UInt8} {e : Ending} (h : DecEnd w b e w') (hd : dec b = (.node 0 0 ⟨#[]⟩ [], 2)) : ∃ ao cap, e = .returned (.tuple #[.agg #[.int .i64 0, .int .i64 0, .string ⟨#[]⟩, .slice ao 0 cap], .int .i64 2]) ∧ Below w.heap.size w w' := by
  unfold DecEnd at h
  rw [hd] at h
  obtain ⟨v, rfl, hv, hb⟩ := h
  simp only at hv
  unfold ValIs at hv
  obtain ⟨ao, cap, rfl, _⟩ := hv
  exact ⟨ao, cap, rfl, hb⟩
set_option maxRecDepth 100000 in
set_option maxHeartbeats 1600000 in
theorem valBack_walk (t : VT) (vt : Value) (cut : Int) (w : World) (P : Nat → Prop) (hT : Tab w) (hv : ValIs w P t vt) (hP : ∀ x, P x → x < w.heap.size) : Calls Tryd.prog 9 #[vt, .int .i64 cut] w fun e w' => e = .returned (.bool true) ∧ Below w.heap.size w w' := by
  have HT := Lib.hid hT
  have hv0 := hv
  obtain ⟨u, hu⟩ : ∃ u, topTame t = u := ⟨_, rfl⟩
  have H1 : Hid (∀ o, Calls Tryd.prog 10 #[vt] (w.alloc o) (TopEnd (w.alloc o) u)) := fun o => by
    have := top_any t vt (w.alloc o) P (hv.below ((Below.refl _ _).alloc (Nat.le_refl _) _) hP) (fun b hb => by have := hP b hb; simp; omega)
    rwa [hu] at this
  obtain ⟨ka, na, sa, la⟩ := t
  unfold ValIs at hv0
  obtain ⟨ao, cap, rfl, a1, a2, a3, a4, a5, a6, a7⟩ := hv0
  clear hv a7 hu hT a1 a2 a3 a4 a5 a6 hP
  go_enter Tryd.func9, Tryd.ntmps9
  go_wp2_with (first
    | (go_at_call 10; refine (H1.out _).mono ?_; rintro e w5 ⟨ao5, cap5, rfl, hv5, hb5⟩; clear H1;
       have z5 := (hb5.block w.heap.size (by simp)).trans (heap_alloc_new w _);
       have b5 := boxed_of z5;
       have Z5 := Lib.hid z5;
       obtain ⟨⟨c50, c51, c52, c53⟩, f5⟩ := b5;
       have B5 : Hid (Below w.heap.size w w5) := ((Below.refl _ _).alloc (Nat.le_refl _) _).trans (hb5.mono (by simp));
       have S5 : Hid (w.heap.size + 1 ≤ w5.heap.size) := (by have := hb5.size; show _ ≤ _; simpa using this);
       have V5 : Hid (∀ W, Chg [w.heap.size] w5 W → ValIs W (fun b => w.heap.size + 1 ≤ b ∧ b < w5.heap.size) u (vval u ao5 cap5)) := (fun W hW => (hv5.chg hW (fun b hb => ⟨hb.2, by have := hb.1; simp at this; simp; omega⟩)).mono (fun b hb => ⟨by have := hb.1; simp at this; omega, hb.2⟩));
       clear hb5 hv5 z5)
    | fail)
  have C2 := four_stores (Chg.refl [w.heap.size] w5) (p := w.heap.size) (.inl (by simp)) (.int .i64 u.kind) (.int .i64 u.num) (.string u.text) (.slice ao5 u.kids.length cap5)
  have Z2 := four_stored (y0 := .int .i64 u.kind) (y1 := .int .i64 u.num) (y2 := .string u.text) (y3 := .slice ao5 u.kids.length cap5) Z5.out
  generalize ((((w5.setCell _ _).setCell _ _).setCell _ _).setCell _ _) = W2 at C2 Z2 ⊢
  have HG : Hid (∀ W', Below W2.heap.size W2 W' → Boxed W' w.heap.size (.int .i64 u.kind) (.int .i64 u.num) (.string u.text) (.slice ao5 u.kids.length cap5) ∧ ValIs W' (fun b => b < W2.heap.size) u (.agg #[.int .i64 u.kind, .int .i64 u.num, .string u.text, .slice ao5 u.kids.length cap5]) ∧ Below w.heap.size w W' ∧ Tab W' ∧ W2.heap.size ≤ W'.heap.size) := by
    intro W' hW
    have hB : Below w.heap.size w W' := (B5.out.trans (C2.below B5.out.size (by simp))).trans (hW.mono (Nat.le_trans B5.out.size C2.size))
    refine ⟨boxed_below (boxed_of Z2) hW (lt_of_block Z2), ?_, hB, HT.out.below hB, hW.size⟩
    exact ((V5.out W2 C2).below hW (fun b hb => Nat.lt_of_lt_of_le hb.2 C2.size)).mono (fun b hb => Nat.lt_of_lt_of_le hb.2 C2.size)
  have HR := Lib.hid (Below.refl W2.heap.size W2)
  clear C2 Z2 V5 Z5 c50 c51 c52 c53 f5 B5 S5
  have HEN := encode_any u _ W2 _ (HG.out _ HR.out).2.1 (fun b hb => hb)
  refine HEN.mono ?_
  clear HEN
  rintro e w6 ⟨v6, rfl, hr6, hb6⟩
  obtain ⟨ao6, cap6, rfl, hl6, hm6⟩ := hr6.form
  have R6 := Lib.hid hr6
  have B6 := Lib.hid hb6
  obtain ⟨⟨⟨c0, c1, c2, c3⟩, _⟩, _⟩ := HG.out w6 hb6
  unfold maxLen at hm6
  clear hr6 hb6
  by_cases he : encErr u = 0
  · obtain ⟨hrt, hsm⟩ := err_zero he
    obtain ⟨_, hen⟩ := encErr_ok hrt hsm
    have HD1 := Lib.hid (dec_enc hrt hsm)
    have HD2 := Lib.hid (dec_cut hrt)
    have HD3 := Lib.hid (dec_more hrt)
    have hpos : 0 < u.enc.length := by
      cases h : u.enc with
      | nil => exact absurd h (enc_ne u)
      | cons _ _ => simp
    rw [hen] at R6 hl6 ⊢
    rw [he]
    clear he hen hrt
    obtain ⟨l, hl⟩ : ∃ l, l = u.enc := ⟨_, rfl⟩
    rw [← hl] at HD1 HD2 HD3 hpos R6 hl6 hsm ⊢
    clear hl
    have hln : l ≠ [] := by intro h; rw [h] at hpos; simp at hpos
    obtain ⟨g6, cap6', hsh, _⟩ := R6.out.shape hln
    simp only [Value.slice.injEq, true_and] at hsh
    obtain ⟨rfl, rfl⟩ := hsh
    have HLN := Lib.hid hln
    clear hln
    have hlp : (0 : Int) < (l.length : Int) := by omega
    obtain ⟨m, hm, hmL⟩ := law_mod cut l.length hpos (by omega)
    have HI := Lib.hid (BytesIn.row R6.out)
    have HI2 : Hid (BytesIn w6 (.slice (some ⟨g6, 0, none⟩) m cap6) (l.take m)) := HI.out.take (by omega)
    obtain ⟨c, hc⟩ := law_byte cut
    have HDC : Hid (∀ W, Below w6.heap.size w6 W → Calls Tryd.prog 24 #[.slice (some ⟨g6, 0, none⟩) l.length cap6] W (fun e w' => ∃ v, e = .returned (.tuple #[v, .int .i64 0]) ∧ ValIs w' (fun x => W.heap.size ≤ x ∧ x < w'.heap.size) u v ∧ Below W.heap.size W w')) := fun W hW => by
      have := decode_any _ l W (HI.out.below hW) (by omega)
      unfold DecEnd at this
      rwa [HD1.out] at this
    have HDC2 : Hid (∀ W, Below w6.heap.size w6 W → Calls Tryd.prog 24 #[.slice (some ⟨g6, 0, none⟩) m cap6] W (fun e w' => ∃ ao cap, e = .returned (.tuple #[.agg #[.int .i64 0, .int .i64 0, .string ⟨#[]⟩, .slice ao 0 cap], .int .i64 2]) ∧ Below W.heap.size W w')) := fun W hW => by
      have := decode_any _ (l.take m) W (HI2.out.below hW) (by rw [List.length_take]; omega)
      exact this.mono (fun e w' h => no_end h (HD2.out m hmL))
    have HDC3 : Hid (∀ W v N, ByteRow W N v (l ++ [c]) → Calls Tryd.prog 24 #[v] W (fun e w' => ∃ ao cap, e = .returned (.tuple #[.agg #[.int .i64 0, .int .i64 0, .string ⟨#[]⟩, .slice ao 0 cap], .int .i64 2]) ∧ Below W.heap.size W w')) := fun W v N hW => by
      have := decode_any _ (l ++ [c]) W (BytesIn.row hW) (by rw [List.length_append, List.length_singleton]; omega)
      exact this.mono (fun e w' h => no_end h (HD3.out c))
    have HS := Lib.hid (VT.same_refl u)
    go_wp2_with (first
      | (go_at_call 13; refine (vals_any w6 (HG.out _ B6.out).2.2.2.1).mono ?_; rintro e w7 ⟨rfl, hb7⟩; have B7 := Lib.hid (B6.out.trans (hb7.mono B6.out.size)); have B67 := Lib.hid hb7; clear hb7)
      | (go_at_call 24; refine (HDC.out _ B67.out).mono ?_; rintro e w8 ⟨v8, rfl, hv8, hb8⟩; clear HDC; obtain ⟨ao8, cap8, rfl⟩ := hv8.form; have V8 := Lib.hid hv8; have B68 : Hid (Below w6.heap.size w6 (w8.alloc (.cells #[.int .i64 u.kind, .int .i64 u.num, .string u.text, .slice ao8 u.kids.length cap8] 24 (0, 0)))) := (B67.out.trans (hb8.mono B67.out.size)).trans ((Below.refl _ _).alloc (Nat.le_trans B67.out.size hb8.size) _); clear hv8 hb8; unfold vval)
      | (go_at_call 24; refine (HDC2.out _ B68.out).mono ?_; rintro e w10 ⟨ao10, cap10, rfl, hb10⟩; clear HDC2; have B811 : Hid (Below (w8.heap.size + 1) (w8.alloc (.cells #[.int .i64 u.kind, .int .i64 u.num, .string u.text, .slice ao8 u.kids.length cap8] 24 (0, 0))) (w10.alloc (.cells #[.int .i64 0, .int .i64 0, .string ⟨#[]⟩, .slice ao10 0 cap10] 24 (0, 0)))) := (hb10.mono (by simp)).trans ((Below.refl _ _).alloc (by have := hb10.size; simpa using this) _); clear hb10)
      | (at_builtin; refine wpList_appb (w := (w10.alloc (.cells #[.int .i64 0, .int .i64 0, .string ⟨#[]⟩, .slice ao10 0 cap10] 24 (0, 0))).alloc (.cells #[] 5)) rfl _ _ rfl (b := []) (l := l) rfl (new_none w10 _) rfl (R6.out.below ((B68.out.trans (B811.out.mono (by have := B68.out.size; simpa using this))).trans ((Below.refl _ _).alloc (by have := B68.out.size; have := B811.out.size; simp at *; omega) _))) HLN.out (by simp) (by simp; omega) ?_; intro v12 w12 hr12 ho12; replace hr12 : ByteRow w12 (w10.heap.size + 1) v12 l := hr12; have B812 : Hid (Below (w8.heap.size + 1) (w8.alloc (.cells #[.int .i64 u.kind, .int .i64 u.num, .string u.text, .slice ao8 u.kids.length cap8] 24 (0, 0))) w12) := B811.out.trans (((Below.refl _ _).alloc (by have := B811.out.size; simp at this ⊢; omega) _).trans (ho12.below (by have := B811.out.size; simp at this ⊢; omega) (fun k hk => by have h8 := B811.out.size; have hk' : w10.heap.size + 1 = k := (Option.some.inj hk); simp at h8; omega))); have S12 : Hid (w10.heap.size + 1 ≤ w12.heap.size) := (by have := ho12.size; simp at this; exact Nat.le_of_succ_le this); obtain ⟨g12, cap12, rfl, _⟩ := hr12.shape HLN.out; have R12 := Lib.hid hr12; clear hr12 ho12 HLN)
      | (at_builtin; refine wpList_appb (w := w12.alloc (.cells #[.int .u8 (c.toNat : Int)] 5)) rfl _ _ rfl (b := l) (l := [c]) rfl (R12.out.below ((Below.refl _ _).alloc (Nat.le_refl _) _)) rfl (new_row w12 [c] _ rfl (by simp)) (by simp) (by have := S12.out; simp; omega) (by rw [List.length_singleton]; omega) ?_; intro v14 w14 hr14 ho14; have B814 : Hid (Below (w8.heap.size + 1) (w8.alloc (.cells #[.int .i64 u.kind, .int .i64 u.num, .string u.text, .slice ao8 u.kids.length cap8] 24 (0, 0))) w14) := B812.out.trans (((Below.refl _ _).alloc (by have := B812.out.size; simpa using this) _).trans (ho14.below (by have := B812.out.size; simp at this ⊢; omega) (fun k hk => by have := R12.out.2 k hk; have := B811.out.size; simp at this; omega))); have R14 := Lib.hid hr14; clear hr14 ho14)
      | (go_at_call 24; refine (HDC3.out _ _ _ R14.out).mono ?_; rintro e w15 ⟨ao15, cap15, rfl, hb15⟩; have B815 : Hid (Below (w8.heap.size + 1) (w8.alloc (.cells #[.int .i64 u.kind, .int .i64 u.num, .string u.text, .slice ao8 u.kids.length cap8] 24 (0, 0))) (w15.alloc (.cells #[.int .i64 0, .int .i64 0, .string ⟨#[]⟩, .slice ao15 0 cap15] 24 (0, 0)))) := (B814.out.trans (hb15.mono (by have := B814.out.size; simpa using this))).trans ((Below.refl _ _).alloc (by have := hb15.size; have := B814.out.size; simp at this; omega) _); clear hb15; have zb := (B815.out.block w8.heap.size (by omega)).trans (heap_alloc_new w8 _); have B2F := Lib.hid ((B6.out.trans (B68.out.mono B6.out.size)).trans (B815.out.mono (by have := (B6.out.trans (B68.out.mono B6.out.size)).size; simpa using this))); obtain ⟨y0, y1, y2, y3, _⟩ := hdr4_cells zb; obtain ⟨⟨⟨x0, x1, x2, x3⟩, _⟩, _⟩ := HG.out _ B2F.out; have ZB := Lib.hid zb; have VF : Hid (ValIs (w15.alloc (.cells #[.int .i64 0, .int .i64 0, .string ⟨#[]⟩, .slice ao15 0 cap15] 24 (0, 0))) (fun x => x < w8.heap.size) u (.agg #[.int .i64 u.kind, .int .i64 u.num, .string u.text, .slice ao8 u.kids.length cap8])) := ((V8.out.mono (fun x hx => hx.2)).below ((Below.refl _ _).alloc (Nat.le_refl _) (.cells #[.int .i64 u.kind, .int .i64 u.num, .string u.text, .slice ao8 u.kids.length cap8] 24 (0, 0))) (fun b hb => hb)).below B815.out (fun b hb => Nat.lt_succ_of_lt hb); have LF : Hid (w8.heap.size ≤ (w15.alloc (.cells #[.int .i64 0, .int .i64 0, .string ⟨#[]⟩, .slice ao15 0 cap15] 24 (0, 0))).heap.size) := (by have := B815.out.size; show w8.heap.size ≤ _; simp at this ⊢; omega); clear zb)
      | (go_at_call 15; refine (refSame_walk u.sz u u _ _ _ _ (Nat.le_refl _) ((HG.out _ B2F.out).2.1.mono (fun b hb => Nat.lt_of_lt_of_le hb (HG.out _ B2F.out).2.2.2.2)) (VF.out.mono (fun b hb => Nat.lt_of_lt_of_le hb LF.out)) (fun b hb => hb)).mono ?_; rintro e w17 ⟨rfl, hb17⟩; rw [HS.out]; have B17 := Lib.hid hb17; have zb := (hb17.block w8.heap.size (lt_of_block ZB.out)).trans ZB.out; obtain ⟨p0, p1, p2, p3, _⟩ := hdr4_cells zb; have B2G := Lib.hid (B2F.out.trans (hb17.mono B2F.out.size)); obtain ⟨⟨⟨q0, q1, q2, q3⟩, _⟩, _⟩ := HG.out _ B2G.out; clear hb17 zb)
      | (go_at_call 20; refine (same_walk u.sz u u _ _ w17 _ (Nat.le_refl _) ((HG.out _ B2G.out).2.1.mono (fun b hb => Nat.lt_of_lt_of_le hb (HG.out _ B2G.out).2.2.2.2)) ((VF.out.mono (fun b hb => Nat.lt_of_lt_of_le hb LF.out)).below B17.out (fun b hb => hb) |>.mono (fun b hb => Nat.lt_of_lt_of_le hb B17.out.size)) (fun b hb => hb)).mono ?_; rintro e w19 ⟨rfl, hb19⟩; rw [HS.out]; have B19 := Lib.hid (B2G.out.trans (hb19.mono B2G.out.size)); clear hb19)
      | fail)
    all_goals
      go_ret
      exact ⟨by rfl, (HG.out _ B19.out).2.2.1⟩
  · have hen : encBytes u = [] := by
      unfold encErr at he
      unfold encBytes
      split
      · rename_i h1
        rw [if_pos h1] at he
        split
        · rename_i h2; rw [if_pos h2] at he; exact absurd rfl he
        · rfl
      · rfl
    have hq : (encErr u == 0) = false := by simpa using he
    have hq2 : (encErr u != 0) = true := by simp [bne, hq]
    rw [hen] at hl6 ⊢
    clear he hen
    go_wp2_with (first
      | (go_at_call 13; refine (vals_any w7 (HG.out _ B7.out).2.2.2.1).mono ?_; rintro e w8 ⟨rfl, hb8⟩; have B8 := Lib.hid (B7.out.trans (hb8.mono B7.out.size)); clear hb8)
      | (go_at_call 13; refine (vals_any w6 (HG.out _ B6.out).2.2.2.1).mono ?_; rintro e w7 ⟨rfl, hb7⟩; have B7 := Lib.hid (B6.out.trans (hb7.mono B6.out.size)); clear hb7))
    go_ret
    exact ⟨rfl, (HG.out _ B8.out).2.2.1⟩
end Go.Proofs.YtofmbpmmgpbdbaaDoor
