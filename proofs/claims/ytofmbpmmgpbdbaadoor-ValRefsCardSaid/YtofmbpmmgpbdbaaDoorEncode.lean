/- Encode and Check, the reference's and the program's. -/
import Derived.Test.YtofmbpmmgpbdbaaDoorValRight
import Derived.Test.YtofmbpmmgpbdbaaDoorBytesR
namespace Go.Proofs.YtofmbpmmgpbdbaaDoor
open Go.RowKit Go.Maps Wr
set_option linter.unusedVariables false

set_option maxRecDepth 100000 in
theorem bytes_stop (t : VT) (vt : Value) (w : World) (P : Nat → Prop) (N : Nat) (v : Value) (b : List UInt8) (hv : ValIs w P t vt) (hrow : ByteRow w N v b) (hb : 32768 < b.length) :
    Calls Tryd.prog 27 #[v, vt] w (PutEnd w N v (t.put 32768 b)) := by
  obtain ⟨k0, na, sa, la⟩ := t
  unfold ValIs at hv
  obtain ⟨ao, cap, rfl, a1, a2, a3, a4, a5, a6, a7⟩ := hv
  have hpt : Hid ((VT.node k0 na sa la).put 32768 b = b) := by show _ = _; rw [VT.put_node, if_pos hb]
  have HR := Lib.hid hrow
  obtain ⟨ao0, cap0, rfl, hc0, hc1⟩ := hrow.form
  unfold maxLen at a2 hc1
  clear hrow a7
  have hb2 : (32768 : Int) < b.length := by omega
  go_enter Tryd.func27, Tryd.ntmps27
  go_wp2
  go_ret
  refine PutEnd.boxed (o := .cells #[.int .i64 k0, .int .i64 na, .string sa, .slice ao la.length cap] 24) ⟨_, rfl, ?_, OwnStep.refl _ _⟩ (fun k hk => HR.out.lt hk)
  rw [hpt.out]
  exact HR.out.below ((Below.refl _ _).alloc (Nat.le_refl _) _)

theorem bytes_walk : ∀ (k : Nat) (t : VT) (vt : Value) (w : World) (P : Nat → Prop) (d : Int) (N : Nat) (v : Value) (b : List UInt8), t.sz ≤ k → t.right d = true → ValIs w P t vt → (∀ x, P x → x < w.heap.size ∧ v.ownBlock ≠ some x) → ByteRow w N v b → N ≤ w.heap.size → b.length ≤ 100000 →
    Calls Tryd.prog 27 #[v, vt] w (PutEnd w N v (t.put 32768 b)) := by
  intro k
  induction k with
  | zero => intro t _ _ _ _ _ _ _ h; cases t; simp [VT.sz] at h
  | succ k ih =>
    intro t vt w P d N v b hk hr hv hP hrow hN hb
    by_cases hs : 32768 < b.length
    · exact bytes_stop t vt w P N v b hv hrow hs
    · obtain ⟨k0, na, sa, la⟩ := t
      unfold ValIs at hv
      obtain ⟨ao, cap, rfl, a1, a2, a3, a4, a5, a6, a7⟩ := hv
      have hs : b.length ≤ 32768 := by omega
      obtain ⟨h0, h6, _⟩ := fits_parts (VT.right_parts hr).1
      have h : k0 = 0 ∨ k0 = 1 ∨ k0 = 2 ∨ k0 = 3 ∨ k0 = 4 ∨ k0 = 5 ∨ k0 = 6 := by omega
      rcases h with rfl | rfl | rfl | rfl | rfl | rfl | rfl
      · exact bytes_0 k ih na sa la w P d N v b ao cap hk hr a1 a2 a7 hP hrow hN hs
      · exact bytes_1 k ih na sa la w P d N v b ao cap hk hr a1 a2 a7 hP hrow hN hs
      · exact bytes_2 k ih na sa la w P d N v b ao cap hk hr a1 a2 a7 hP hrow hN hs
      · exact bytes_3 k ih na sa la w P d N v b ao cap hk hr a1 a2 a7 hP hrow hN hs
      · exact bytes_4 k ih na sa la w P d N v b ao cap hk hr a1 a2 a7 hP hrow hN hs
      · exact bytes_5 k ih na sa la w P d N v b ao cap hk hr a1 a2 a7 hP hrow hN hs
      · exact bytes_6 k ih na sa la w P d N v b ao cap hk hr a1 a2 a7 hP hrow hN hs

/-- 'string(b)' of a row of bytes. -/
theorem run_row_str {w : World} {N : Nat} {v : Value} {b : List UInt8} (h : ByteRow w N v b) (hne : b ≠ []) : (convert 29 9 v).run Tryd.prog w = .ok (.string (bytes b)) w := by
  obtain ⟨g, cap, rfl, hg⟩ := h.shape hne
  have hrow := h.1
  have hl : b.toArray.size = b.length := by simp
  have := run_convert_bytes_back (P := Tryd.prog) w 29 9 5 ⟨g, 0, none⟩ cap b Tryd.underlying29 Tryd.underlying5 Tryd.underlying9 (fun j hj => by
    rw [show (Addr.add ⟨g, 0, none⟩ j) = ⟨g, j, none⟩ by unfold Addr.add; split <;> simp_all]
    rw [hrow.cellAt j (by rw [bvals_length]; exact hj)]
    simp [bvals, List.getElem?_eq_getElem hj])
  exact this

/-- What Encode tells. -/
def encErr (t : VT) : Int := if t.right 1 = true then (if (t.enc).length ≤ 16384 then 0 else 4) else 2
def encBytes (t : VT) : List UInt8 := if t.right 1 = true then (if (t.enc).length ≤ 16384 then t.enc else []) else []
theorem enc_ne (t : VT) : t.enc ≠ [] := by
  cases t with
  | node k n s l =>
    rw [VT.enc]
    intro h
    have := num_ne k
    cases h2 : num k with
    | nil => exact this h2
    | cons a b => rw [h2] at h; simp at h
theorem put_len32 {t : VT} : 16384 < (VT.put 32768 t []).length ↔ 16384 < t.enc.length := by
  rcases VT.put_or 32768 t [] with e | ⟨h1, h2⟩
  · rw [e, List.nil_append]
  · rw [List.nil_append] at h2; omega
theorem put_fits32 {t : VT} (h : ¬ 16384 < t.enc.length) : VT.put 32768 t [] = t.enc := VT.put_fits (by omega)
theorem put_len16 {t : VT} : 16384 < (VT.put 16384 t []).length ↔ 16384 < t.enc.length := by
  rcases VT.put_or 16384 t [] with e | ⟨h1, h2⟩
  · rw [e, List.nil_append]
  · rw [List.nil_append] at h2; omega
theorem put_fits16 {t : VT} (h : ¬ 16384 < t.enc.length) : VT.put 16384 t [] = t.enc := VT.put_fits (by omega)
theorem encErr_wrong {t : VT} (h : t.right 1 = false) : encErr t = 2 ∧ encBytes t = [] := by simp [encErr, encBytes, h]
theorem encErr_big {t : VT} (h : t.right 1 = true) (h2 : 16384 < t.enc.length) : encErr t = 4 ∧ encBytes t = [] := by
  have : ¬ t.enc.length ≤ 16384 := by omega
  simp [encErr, encBytes, h, this]
theorem encErr_ok {t : VT} (h : t.right 1 = true) (h2 : ¬ 16384 < t.enc.length) : encErr t = 0 ∧ encBytes t = t.enc := by
  have : t.enc.length ≤ 16384 := by omega
  simp [encErr, encBytes, h, this]
/-- The reference's Encode, ended. -/
def RefEncEnd (w : World) (t : VT) (e : Ending) (w' : World) : Prop := e = .returned (.tuple #[.string (bytes (encBytes t)), .int .i64 (encErr t)]) ∧ Below w.heap.size w w'
/-- The program's Encode, ended. -/
def EncEnd (w : World) (t : VT) (e : Ending) (w' : World) : Prop := ∃ v, e = .returned (.tuple #[v, .int .i64 (encErr t)]) ∧ ByteRow w' w.heap.size v (encBytes t) ∧ Below w.heap.size w w'

theorem nil_row (w : World) (N : Nat) : ByteRow w N (.slice none 0 0) [] := ⟨Row.nil _ _, fun k h => by simp [Value.ownBlock] at h⟩

set_option maxRecDepth 100000 in
set_option maxHeartbeats 1600000 in
theorem refEncode_any (t : VT) (vt : Value) (w : World) (P : Nat → Prop) (hv : ValIs w P t vt) (hP : ∀ x, P x → x < w.heap.size) :
    Calls Tryd.prog 11 #[vt] w (RefEncEnd w t) := by
  have HV := Lib.hid hv
  have HRT : Hid (∀ W, Below w.heap.size w W → Calls Tryd.prog 26 #[vt, .int .i64 1] W fun e w' => e = .returned (.bool (t.right 1)) ∧ Below W.heap.size W w') := fun W hW => refRight_walk t.sz t vt W P 1 (Nat.le_refl _) (hv.below hW hP) (fun b hb => Nat.lt_of_lt_of_le (hP b hb) hW.size) (by omega) (by omega)
  have HPT : Hid (t.right 1 = true → ∀ W, Below w.heap.size w W → Calls Tryd.prog 27 #[.slice none 0 0, vt] W (PutEnd W w.heap.size (.slice none 0 0) (t.put 32768 []))) := fun hr W hW => bytes_walk t.sz t vt W P 1 w.heap.size _ [] (Nat.le_refl _) hr (hv.below hW hP) (fun b hb => ⟨Nat.lt_of_lt_of_le (hP b hb) hW.size, by simp [Value.ownBlock]⟩) (nil_row _ _) hW.size (by simp)
  have hv0 := hv
  obtain ⟨ka, na, sa, la⟩ := t
  unfold ValIs at hv0
  obtain ⟨ao, cap, rfl, a1, a2, a3, a4, a5, a6, a7⟩ := hv0
  generalize VT.node ka na sa la = t at *
  clear hv a7
  cases hr : t.right 1
  · rw [hr] at HRT
    have HE := Lib.hid (encErr_wrong hr)
    clear HPT hr
    go_enter Tryd.func11, Tryd.ntmps11
    go_wp2_with ((go_at_call 26; refine (HRT.out _ ((Below.refl _ _).alloc (Nat.le_refl _) _)).mono ?_; rintro e w5 ⟨rfl, hb5⟩; obtain ⟨c0, c1, c2, c3, hb6⟩ := cells_below hb5; have H6 := Lib.hid hb6; clear hb5 hb6))
    refine bodyPost_ret (v := .tuple #[.string ⟨#[]⟩, .int .i64 2]) (by simp [results, Tryd.results11, go_sem]) rfl ?_
    refine ⟨?_, H6.out⟩
    rw [HE.out.1, HE.out.2]; rfl
  · rw [hr] at HRT
    have HP2 := Lib.hid (HPT.out hr)
    have HRR := Lib.hid hr
    clear HPT hr
    have hlen := Lib.hid (put_len32 (t := t))
    obtain ⟨bz, hbz⟩ : ∃ b, VT.put 32768 t [] = b := ⟨_, rfl⟩
    rw [hbz] at HP2 hlen
    have HBZ := Lib.hid hbz
    clear hbz
    by_cases hbig : 16384 < bz.length
    · have HE := Lib.hid (encErr_big HRR.out (hlen.out.1 hbig))
      have hbig' : (16384 : Int) < bz.length := by omega
      go_enter Tryd.func11, Tryd.ntmps11
      go_wp2_with (first
        | ((go_at_call 26; refine (HRT.out _ ((Below.refl _ _).alloc (Nat.le_refl _) _)).mono ?_; rintro e w5 ⟨rfl, hb5⟩; obtain ⟨c0, c1, c2, c3, hb6⟩ := cells_below hb5; have H6 := Lib.hid hb6; clear hb5 hb6))
        | ((go_at_call 27; refine (HP2.out _ H6.out).mono ?_; rintro e w7 ⟨v7, rfl, hr7, ho7⟩; have R7 := Lib.hid hr7; have O7 := Lib.hid ho7; obtain ⟨ao7, cap7, rfl, _, _⟩ := hr7.form; clear hr7 ho7)))
      refine bodyPost_ret (v := .tuple #[.string ⟨#[]⟩, .int .i64 4]) (by simp [results, Tryd.results11, go_sem]) rfl ?_
      refine ⟨?_, H6.out.trans (O7.out.below H6.out.size (by simp [Value.ownBlock]))⟩
      rw [HE.out.1, HE.out.2]; rfl
    · have HE := Lib.hid (encErr_ok HRR.out (fun h => hbig (hlen.out.2 h)))
      have HZ : Hid (bz = t.enc) := by show _ = _; rw [← HBZ.out]; exact put_fits32 (fun h => hbig (hlen.out.2 h))
      have hbig' : ¬ (16384 : Int) < bz.length := by omega
      go_enter Tryd.func11, Tryd.ntmps11
      go_wp2_with (first
        | ((go_at_call 26; refine (HRT.out _ ((Below.refl _ _).alloc (Nat.le_refl _) _)).mono ?_; rintro e w5 ⟨rfl, hb5⟩; obtain ⟨c0, c1, c2, c3, hb6⟩ := cells_below hb5; have H6 := Lib.hid hb6; clear hb5 hb6))
        | ((go_at_call 27; refine (HP2.out _ H6.out).mono ?_; rintro e w7 ⟨v7, rfl, hr7, ho7⟩; have R7 := Lib.hid hr7; have O7 := Lib.hid ho7; have hcv := run_row_str hr7 (by rw [HZ.out]; exact enc_ne t); obtain ⟨ao7, cap7, rfl, _, _⟩ := hr7.form; clear hr7 ho7)))
      refine bodyPost_ret (v := .tuple #[.string (bytes bz), .int .i64 0]) (by simp [results, Tryd.results11, go_sem]) rfl ?_
      refine ⟨?_, H6.out.trans (O7.out.below H6.out.size (by simp [Value.ownBlock]))⟩
      rw [HE.out.1, HE.out.2, ← HZ.out]

set_option maxRecDepth 100000 in
set_option maxHeartbeats 1600000 in
theorem encode_any (t : VT) (vt : Value) (w : World) (P : Nat → Prop) (hv : ValIs w P t vt) (hP : ∀ x, P x → x < w.heap.size) :
    Calls Tryd.prog 12 #[vt] w (EncEnd w t) := by
  have HV := Lib.hid hv
  have HRT : Hid (∀ W, Below w.heap.size w W → Calls Tryd.prog 28 #[vt, .int .i64 1] W fun e w' => e = .returned (.bool (t.right 1)) ∧ Below W.heap.size W w') := fun W hW => right_walk t.sz t vt W P 1 (Nat.le_refl _) (hv.below hW hP) (fun b hb => Nat.lt_of_lt_of_le (hP b hb) hW.size) (by omega) (by omega)
  have HPT : Hid (t.right 1 = true → ∀ W, Below w.heap.size w W → Calls Tryd.prog 29 #[.slice none 0 0, vt] W (PutEnd W w.heap.size (.slice none 0 0) (t.put 16384 []))) := fun hr W hW => put_walk t.sz t vt W P 1 w.heap.size _ [] (Nat.le_refl _) hr (hv.below hW hP) (fun b hb => ⟨Nat.lt_of_lt_of_le (hP b hb) hW.size, by simp [Value.ownBlock]⟩) (nil_row _ _) hW.size (by simp)
  have hv0 := hv
  obtain ⟨ka, na, sa, la⟩ := t
  unfold ValIs at hv0
  obtain ⟨ao, cap, rfl, a1, a2, a3, a4, a5, a6, a7⟩ := hv0
  generalize VT.node ka na sa la = t at *
  clear hv a7
  cases hr : t.right 1
  · rw [hr] at HRT
    have HE := Lib.hid (encErr_wrong hr)
    clear HPT hr
    go_enter Tryd.func12, Tryd.ntmps12
    go_wp2_with ((go_at_call 28; refine (HRT.out _ ((Below.refl _ _).alloc (Nat.le_refl _) _)).mono ?_; rintro e w5 ⟨rfl, hb5⟩; obtain ⟨c0, c1, c2, c3, hb6⟩ := cells_below hb5; have H6 := Lib.hid hb6; clear hb5 hb6))
    refine bodyPost_ret (v := .tuple #[.slice none 0 0, .int .i64 2]) (by simp [results, Tryd.results12, go_sem]) rfl ?_
    exact ⟨.slice none 0 0, by rw [HE.out.1], by rw [HE.out.2]; exact nil_row _ _, H6.out⟩
  · rw [hr] at HRT
    have HP2 := Lib.hid (HPT.out hr)
    have HRR := Lib.hid hr
    clear HPT hr
    have hlen := Lib.hid (put_len16 (t := t))
    obtain ⟨bz, hbz⟩ : ∃ b, VT.put 16384 t [] = b := ⟨_, rfl⟩
    rw [hbz] at HP2 hlen
    have HBZ := Lib.hid hbz
    clear hbz
    by_cases hbig : 16384 < bz.length
    · have HE := Lib.hid (encErr_big HRR.out (hlen.out.1 hbig))
      have hbig' : (16384 : Int) < bz.length := by omega
      go_enter Tryd.func12, Tryd.ntmps12
      go_wp2_with (first
        | ((go_at_call 28; refine (HRT.out _ ((Below.refl _ _).alloc (Nat.le_refl _) _)).mono ?_; rintro e w5 ⟨rfl, hb5⟩; obtain ⟨c0, c1, c2, c3, hb6⟩ := cells_below hb5; have H6 := Lib.hid hb6; clear hb5 hb6))
        | ((go_at_call 29; refine (HP2.out _ H6.out).mono ?_; rintro e w7 ⟨v7, rfl, hr7, ho7⟩; have R7 := Lib.hid hr7; have O7 := Lib.hid ho7; obtain ⟨ao7, cap7, rfl, _, _⟩ := hr7.form; clear hr7 ho7)))
      refine bodyPost_ret (v := .tuple #[.slice none 0 0, .int .i64 4]) (by simp [results, Tryd.results12, go_sem]) rfl ?_
      exact ⟨.slice none 0 0, by rw [HE.out.1], by rw [HE.out.2]; exact nil_row _ _, H6.out.trans (O7.out.below H6.out.size (by simp [Value.ownBlock]))⟩
    · have HE := Lib.hid (encErr_ok HRR.out (fun h => hbig (hlen.out.2 h)))
      have HZ : Hid (bz = t.enc) := by show _ = _; rw [← HBZ.out]; exact put_fits16 (fun h => hbig (hlen.out.2 h))
      have hbig' : ¬ (16384 : Int) < bz.length := by omega
      go_enter Tryd.func12, Tryd.ntmps12
      go_wp2_with (first
        | ((go_at_call 28; refine (HRT.out _ ((Below.refl _ _).alloc (Nat.le_refl _) _)).mono ?_; rintro e w5 ⟨rfl, hb5⟩; obtain ⟨c0, c1, c2, c3, hb6⟩ := cells_below hb5; have H6 := Lib.hid hb6; clear hb5 hb6))
        | ((go_at_call 29; refine (HP2.out _ H6.out).mono ?_; rintro e w7 ⟨v7, rfl, hr7, ho7⟩; have R7 := Lib.hid hr7; have O7 := Lib.hid ho7; obtain ⟨ao7, cap7, rfl, _, _⟩ := hr7.form; clear hr7 ho7)))
      refine bodyPost_ret (v := .tuple #[.slice ao7 bz.length cap7, .int .i64 0]) (by simp [results, Tryd.results12, go_sem]) rfl ?_
      exact ⟨_, by rw [HE.out.1], by rw [HE.out.2, ← HZ.out]; exact R7.out, H6.out.trans (O7.out.below H6.out.size (by simp [Value.ownBlock]))⟩

set_option maxRecDepth 100000 in
theorem check_any (t : VT) (vt : Value) (w : World) (P : Nat → Prop) (hv : ValIs w P t vt) (hP : ∀ x, P x → x < w.heap.size) :
    Calls Tryd.prog 14 #[vt] w fun e w' => e = .returned (.int .i64 (encErr t)) ∧ Below w.heap.size w w' := by
  have HE : Hid (∀ W, Below w.heap.size w W → Calls Tryd.prog 12 #[vt] W (EncEnd W t)) := fun W hW => encode_any t vt W P (hv.below hW hP) (fun b hb => Nat.lt_of_lt_of_le (hP b hb) hW.size)
  have hv0 := hv
  obtain ⟨ka, na, sa, la⟩ := t
  unfold ValIs at hv0
  obtain ⟨ao, cap, rfl, a1, a2, a3, a4, a5, a6, a7⟩ := hv0
  generalize VT.node ka na sa la = t at *
  clear hv a7
  go_enter Tryd.func14, Tryd.ntmps14
  go_wp2_with ((go_at_call 12; refine (HE.out _ ((Below.refl _ _).alloc (Nat.le_refl _) _)).mono ?_; rintro e w5 ⟨v5, rfl, hr5, hb5⟩; have R5 := Lib.hid hr5; have H5 := Lib.hid hb5; clear hr5 hb5))
  go_ret
  exact ⟨rfl, ((Below.refl _ _).alloc (Nat.le_refl _) _).trans (H5.out.mono (by simp))⟩
end Go.Proofs.YtofmbpmmgpbdbaaDoor
