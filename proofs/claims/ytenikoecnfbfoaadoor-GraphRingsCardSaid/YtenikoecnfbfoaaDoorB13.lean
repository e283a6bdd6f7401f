/- Texts of the proof, in build order: Own2, BytesR, Encode, Kids, Tame. -/
import Derived.Test.YtenikoecnfbfoaaDoorB12
import Derived.Deep.RegionLaw
import Derived.Test.YtenikoecnfbfoaaDoorB11
import Derived.Test.YtenikoecnfbfoaaDoorB09
/- A row of bytes that grows by a text's bytes. -/
namespace Go.Proofs.YtenikoecnfbfoaaDoor
open Go.RowKit Go.Maps Wr
set_option linter.unusedVariables false

theorem run_apps {w : World} {ty : TypeId} {N : Nat} {v : Value} {b : List UInt8} (hr : ByteRow w N v b) (s : ByteArray) (hne : 0 < s.size) (hN : N ≤ w.heap.size) (h63 : b.length + s.size ≤ 1000000000) :
    ∃ v' w', (Builtin.append_ #[67, 9] ty #[v, .string s]).run Tryd.prog w = .ok v' w' ∧ ByteRow w' N v' (b ++ s.data.toList) ∧ OwnStep w v w' v' := by
  obtain ⟨i0, hi, hz0, hz1, hz2⟩ := info_parts infoB
  have hl := bvals_length b
  obtain ⟨v', w', hrun, hown, hgr, _⟩ := Lib.run_append_own_string (P := Tryd.prog) w N 67 9 ty 5 i0 Tryd.underlying67 Tryd.underlying9 hi hz0 hz1 hz2 v b.length (bvals b) hr.owns s (by unfold maxLen; omega) (by omega) hN
  refine ⟨v', w', hrun, ?_, (Chg.refl _ w).grown hgr (fun k hk => .inl (by simp [hk])), ?_⟩
  · rw [strCells_bvals, ← bvals_append] at hown
    exact ByteRow.of hown (by rw [List.length_append]; simp)
  · rcases hr.owns.2 with ⟨rfl, h0⟩ | ⟨g, cap, cur, rfl, hbg, hg, hnc, hcm, hcs, htake⟩
    · have hr2 := run_append_nil_string (P := Tryd.prog) w 67 9 ty 5 i0 (.int .u8 0) Tryd.underlying67 Tryd.underlying9 hi hz0 s hne (by omega) (by rw [hz2]; omega)
      rw [hrun] at hr2
      injection hr2 with e1 e2
      exact .inr ⟨w.heap.size, by rw [e1]; rfl, Nat.le_refl _⟩
    · by_cases hroom : b.length + s.size ≤ cap
      · have hcs' : cur.size = cap := by simpa using hcs
        have hr2 := Lib.run_append_room_string (P := Tryd.prog) w 67 9 ty 5 i0 Tryd.underlying67 Tryd.underlying9 hi hz1 g b.length cap cur hg s hroom (by omega)
        rw [hrun] at hr2
        injection hr2 with e1 e2
        exact .inl (by rw [e1]; rfl)
      · have holds : ∀ j u, (bvals b)[j]? = some u → w.cell? ((⟨g, 0, none⟩ : Addr).add j) = some u := hr.owns.cells (g := g) rfl
        have hr2 := Lib.run_append_grow_string (P := Tryd.prog) w 67 9 ty 5 i0 (.int .u8 0) Tryd.underlying67 Tryd.underlying9 hi hz0 ⟨g, 0, none⟩ b.length cap (bvals b) (by rw [hz1, Nat.mul_one, hl]) holds s (by omega) (by omega) (by rw [hz2]; exact growslice_fits (by omega) (by omega))
        rw [hrun] at hr2
        injection hr2 with e1 e2
        exact .inr ⟨w.heap.size, by rw [e1]; rfl, Nat.le_refl _⟩

/-- 'append(b, s...)' of a text. -/
theorem wpList_apps {w : World} {ops : Array Oper} {rest : List Oper} {o : Oper} {a : Act} {Q : Exit → Act → World → Prop} (hgd : o.guard = none) (sl x : Operand)
    (ho : o.op = .call { callee := .builtin .append, args := #[sl, x], argTypes := #[67, 9] }) {N : Nat} {v : Value} {b : List UInt8} (hs : a.eval sl = v) (hr : ByteRow w N v b) {s : ByteArray} (hx : a.eval x = .string s) (hne : 0 < s.size) (hN : N ≤ w.heap.size)
    (h63 : b.length + s.size ≤ 1000000000)
    (h : ∀ v' w', ByteRow w' N v' (b ++ s.data.toList) → OwnStep w v w' v' → wpList Tryd.prog ops Q rest (a.put o.dst v') w') : wpList Tryd.prog ops Q (o :: rest) a w := by
  refine wpList_plain hgd fun K hK => ?_
  obtain ⟨v', w', hrun, h2, h3⟩ := run_apps (ty := o.type) hr s hne hN h63
  unfold Oper.wp execOp
  simp only [ho, resolve, invoke, builtin, Sem.run_bind, Sem.run_pure, Result.andThen_ok, List.map_toArray, List.map_cons, List.map_nil, hs, hx, hrun]
  exact hK _ _ (h v' w' h2 h3)

theorem step_apps {w : World} {ops : Array Oper} {o : Oper} {a : Act} {K : Act → World → Prop} {Q : Exit → Act → World → Prop} {E : Prop} (hgd : o.guard = none) (sl x : Operand)
    (ho : o.op = .call { callee := .builtin .append, args := #[sl, x], argTypes := #[67, 9] }) {N : Nat} {v : Value} {b : List UInt8} (hs : a.eval sl = v) (hr : ByteRow w N v b) {s : ByteArray} (hx : a.eval x = .string s) (hne : 0 < s.size) (hN : N ≤ w.heap.size)
    (h63 : b.length + s.size ≤ 1000000000)
    (h : ∀ v' w', ByteRow w' N v' (b ++ s.data.toList) → OwnStep w v w' v' → K (a.put o.dst v') w') : if Region.wanted o (yielded ops a.tmps) = true then Oper.wp Tryd.prog o a w K Q else E := by
  have hw : Region.wanted o (yielded ops a.tmps) = true := by simp [Region.wanted, hgd]
  rw [if_pos hw]
  obtain ⟨v', w', hrun, h2, h3⟩ := run_apps (ty := o.type) hr s hne hN h63
  unfold Oper.wp execOp
  simp only [ho, resolve, invoke, builtin, Sem.run_bind, Sem.run_pure, Result.andThen_ok, List.map_toArray, List.map_cons, List.map_nil, hs, hx, hrun, Oper.upon]
  exact h v' w' h2 h3
end Go.Proofs.YtenikoecnfbfoaaDoor
/- The reference's bytes: a value's bytes behind others. -/
namespace Go.Proofs.YtenikoecnfbfoaaDoor
open Go.RowKit Go.Maps Wr
set_option linter.unusedVariables false

theorem bytes_data (l : List UInt8) : (bytes l).data.toList = l := by simp [bytes]
theorem num_pos (n : Int) : 0 < (bytes (num n)).size := by
  rw [bytes_size]; have := num_ne n; cases h : num n; exact absurd h this; simp
section
end
end Go.Proofs.YtenikoecnfbfoaaDoor
/- Encode and Check, the reference's and the program's. -/
namespace Go.Proofs.YtenikoecnfbfoaaDoor
open Go.RowKit Go.Maps Wr
set_option linter.unusedVariables false

/-- 'string(b)' of a row of bytes. -/
theorem run_row_str {w : World} {N : Nat} {v : Value} {b : List UInt8} (h : ByteRow w N v b) (hne : b ≠ []) : (convert 67 9 v).run Tryd.prog w = .ok (.string (bytes b)) w := by
  obtain ⟨g, cap, rfl, hg⟩ := h.shape hne
  have hrow := h.1
  have hl : b.toArray.size = b.length := by simp
  have := run_convert_bytes_back (P := Tryd.prog) w 67 9 5 ⟨g, 0, none⟩ cap b Tryd.underlying67 Tryd.underlying5 Tryd.underlying9 (fun j hj => by
    rw [show (Addr.add ⟨g, 0, none⟩ j) = ⟨g, j, none⟩ by unfold Addr.add; split <;> simp_all]
    rw [hrow.cellAt j (by rw [bvals_length]; exact hj)]
    simp [bvals, List.getElem?_eq_getElem hj])
  exact this

/-- What Encode tells. -/
def encErr (t : VT) : Int := if t.right 1 = true then (if (t.enc).length ≤ 16384 then 0 else 4) else 2
def encBytes (t : VT) : List UInt8 := if t.right 1 = true then (if (t.enc).length ≤ 16384 then t.enc else []) else []
theorem enc_ne (t : VT) : t.enc ≠ [] := by
  cases t with
  | node k n s l =>
    rw [VT.enc]
    intro h
    have := num_ne k
    cases h2 : num k with
    | nil => exact this h2
    | cons a b => rw [h2] at h; simp at h
theorem put_len32 {t : VT} : 16384 < (VT.put 32768 t []).length ↔ 16384 < t.enc.length := by
  rcases VT.put_or 32768 t [] with e | ⟨h1, h2⟩
  · rw [e, List.nil_append]
  · rw [List.nil_append] at h2; omega
theorem put_fits32 {t : VT} (h : ¬ 16384 < t.enc.length) : VT.put 32768 t [] = t.enc := VT.put_fits (by omega)
theorem put_len16 {t : VT} : 16384 < (VT.put 16384 t []).length ↔ 16384 < t.enc.length := by
  rcases VT.put_or 16384 t [] with e | ⟨h1, h2⟩
  · rw [e, List.nil_append]
  · rw [List.nil_append] at h2; omega
theorem put_fits16 {t : VT} (h : ¬ 16384 < t.enc.length) : VT.put 16384 t [] = t.enc := VT.put_fits (by omega)
theorem encErr_wrong {t : VT} (h : t.right 1 = false) : encErr t = 2 ∧ encBytes t = [] := by simp [encErr, encBytes, h]
theorem encErr_big {t : VT} (h : t.right 1 = true) (h2 : 16384 < t.enc.length) : encErr t = 4 ∧ encBytes t = [] := by
  have : ¬ t.enc.length ≤ 16384 := by omega
  simp [encErr, encBytes, h, this]
theorem encErr_ok {t : VT} (h : t.right 1 = true) (h2 : ¬ 16384 < t.enc.length) : encErr t = 0 ∧ encBytes t = t.enc := by
  have : t.enc.length ≤ 16384 := by omega
  simp [encErr, encBytes, h, this]
/-- The reference's Encode, ended. -/
def RefEncEnd (w : World) (t : VT) (e : Ending) (w' : World) : Prop := e = .returned (.tuple #[.string (bytes (encBytes t)), .int .i64 (encErr t)]) ∧ Below w.heap.size w w'
/-- The program's Encode, ended. -/
def EncEnd (w : World) (t : VT) (e : Ending) (w' : World) : Prop := ∃ v, e = .returned (.tuple #[v, .int .i64 (encErr t)]) ∧ ByteRow w' w.heap.size v (encBytes t) ∧ Below w.heap.size w w'

theorem nil_row (w : World) (N : Nat) : ByteRow w N (.slice none 0 0) [] := ⟨Row.nil _ _, fun k h => by simp [Value.ownBlock] at h⟩

set_option maxRecDepth 100000 in
set_option maxHeartbeats 1600000 in
theorem encode_any (t : VT) (vt : Value) (w : World) (P : Nat → Prop) (hv : ValIs w P t vt) (hP : ∀ x, P x → x < w.heap.size) :
    Calls Tryd.prog 20 #[vt] w (EncEnd w t) := by
  have HV := Lib.hid hv
  have HRT : Hid (∀ W, Below w.heap.size w W → Calls Tryd.prog 30 #[vt, .int .i64 1] W fun e w' => e = .returned (.bool (t.right 1)) ∧ Below W.heap.size W w') := fun W hW => right_walk t.sz t vt W P 1 (Nat.le_refl _) (hv.below hW hP) (fun b hb => Nat.lt_of_lt_of_le (hP b hb) hW.size) (by omega) (by omega)
  have HPT : Hid (t.right 1 = true → ∀ W, Below w.heap.size w W → Calls Tryd.prog 31 #[.slice none 0 0, vt] W (PutEnd W w.heap.size (.slice none 0 0) (t.put 16384 []))) := fun hr W hW => put_walk t.sz t vt W P 1 w.heap.size _ [] (Nat.le_refl _) hr (hv.below hW hP) (fun b hb => ⟨Nat.lt_of_lt_of_le (hP b hb) hW.size, by simp [Value.ownBlock]⟩) (nil_row _ _) hW.size (by simp)
  have hv0 := hv
  obtain ⟨ka, na, sa, la⟩ := t
  unfold ValIs at hv0
  obtain ⟨ao, cap, rfl, a1, a2, a3, a4, a5, a6, a7⟩ := hv0
  generalize VT.node ka na sa la = t at *
  clear hv a7
  cases hr : t.right 1
  · rw [hr] at HRT
    have HE := Lib.hid (encErr_wrong hr)
    clear HPT hr
    go_enter Tryd.func20, Tryd.ntmps20
    go_wp2_with ((go_at_call 30; refine (HRT.out _ ((Below.refl _ _).alloc (Nat.le_refl _) _)).mono ?_; rintro e w5 ⟨rfl, hb5⟩; obtain ⟨c0, c1, c2, c3, hb6⟩ := cells_below hb5; have H6 := Lib.hid hb6; clear hb5 hb6))
    refine bodyPost_ret (v := .tuple #[.slice none 0 0, .int .i64 2]) (by simp [results, Tryd.results20, go_sem]) rfl ?_
    exact ⟨.slice none 0 0, by rw [HE.out.1], by rw [HE.out.2]; exact nil_row _ _, H6.out⟩
  · rw [hr] at HRT
    have HP2 := Lib.hid (HPT.out hr)
    have HRR := Lib.hid hr
    clear HPT hr
    have hlen := Lib.hid (put_len16 (t := t))
    obtain ⟨bz, hbz⟩ : ∃ b, VT.put 16384 t [] = b := ⟨_, rfl⟩
    rw [hbz] at HP2 hlen
    have HBZ := Lib.hid hbz
    clear hbz
    by_cases hbig : 16384 < bz.length
    · have HE := Lib.hid (encErr_big HRR.out (hlen.out.1 hbig))
      have hbig' : (16384 : Int) < bz.length := by omega
      go_enter Tryd.func20, Tryd.ntmps20
      go_wp2_with (first
        | ((go_at_call 30; refine (HRT.out _ ((Below.refl _ _).alloc (Nat.le_refl _) _)).mono ?_; rintro e w5 ⟨rfl, hb5⟩; obtain ⟨c0, c1, c2, c3, hb6⟩ := cells_below hb5; have H6 := Lib.hid hb6; clear hb5 hb6))
        | ((go_at_call 31; refine (HP2.out _ H6.out).mono ?_; rintro e w7 ⟨v7, rfl, hr7, ho7⟩; have R7 := Lib.hid hr7; have O7 := Lib.hid ho7; obtain ⟨ao7, cap7, rfl, _, _⟩ := hr7.form; clear hr7 ho7)))
      refine bodyPost_ret (v := .tuple #[.slice none 0 0, .int .i64 4]) (by simp [results, Tryd.results20, go_sem]) rfl ?_
      exact ⟨.slice none 0 0, by rw [HE.out.1], by rw [HE.out.2]; exact nil_row _ _, H6.out.trans (O7.out.below H6.out.size (by simp [Value.ownBlock]))⟩
    · have HE := Lib.hid (encErr_ok HRR.out (fun h => hbig (hlen.out.2 h)))
      have HZ : Hid (bz = t.enc) := by show _ = _; rw [← HBZ.out]; exact put_fits16 (fun h => hbig (hlen.out.2 h))
      have hbig' : ¬ (16384 : Int) < bz.length := by omega
      go_enter Tryd.func20, Tryd.ntmps20
      go_wp2_with (first
        | ((go_at_call 30; refine (HRT.out _ ((Below.refl _ _).alloc (Nat.le_refl _) _)).mono ?_; rintro e w5 ⟨rfl, hb5⟩; obtain ⟨c0, c1, c2, c3, hb6⟩ := cells_below hb5; have H6 := Lib.hid hb6; clear hb5 hb6))
        | ((go_at_call 31; refine (HP2.out _ H6.out).mono ?_; rintro e w7 ⟨v7, rfl, hr7, ho7⟩; have R7 := Lib.hid hr7; have O7 := Lib.hid ho7; obtain ⟨ao7, cap7, rfl, _, _⟩ := hr7.form; clear hr7 ho7)))
      refine bodyPost_ret (v := .tuple #[.slice ao7 bz.length cap7, .int .i64 0]) (by simp [results, Tryd.results20, go_sem]) rfl ?_
      exact ⟨_, by rw [HE.out.1], by rw [HE.out.2, ← HZ.out]; exact R7.out, H6.out.trans (O7.out.below H6.out.size (by simp [Value.ownBlock]))⟩

set_option maxRecDepth 100000 in
theorem check_any (t : VT) (vt : Value) (w : World) (P : Nat → Prop) (hv : ValIs w P t vt) (hP : ∀ x, P x → x < w.heap.size) :
    Calls Tryd.prog 9 #[vt] w fun e w' => e = .returned (.int .i64 (encErr t)) ∧ Below w.heap.size w w' := by
  have HE : Hid (∀ W, Below w.heap.size w W → Calls Tryd.prog 20 #[vt] W (EncEnd W t)) := fun W hW => encode_any t vt W P (hv.below hW hP) (fun b hb => Nat.lt_of_lt_of_le (hP b hb) hW.size)
  have hv0 := hv
  obtain ⟨ka, na, sa, la⟩ := t
  unfold ValIs at hv0
  obtain ⟨ao, cap, rfl, a1, a2, a3, a4, a5, a6, a7⟩ := hv0
  generalize VT.node ka na sa la = t at *
  clear hv a7
  go_enter Tryd.func9, Tryd.ntmps9
  go_wp2_with ((go_at_call 20; refine (HE.out _ ((Below.refl _ _).alloc (Nat.le_refl _) _)).mono ?_; rintro e w5 ⟨v5, rfl, hr5, hb5⟩; have R5 := Lib.hid hr5; have H5 := Lib.hid hb5; clear hr5 hb5))
  go_ret
  exact ⟨rfl, ((Below.refl _ _).alloc (Nat.le_refl _) _).trans (H5.out.mono (by simp))⟩
end Go.Proofs.YtenikoecnfbfoaaDoor
/- A row of values that is being made. -/
namespace Go.Proofs.YtenikoecnfbfoaaDoor
open Go.RowKit Go.Maps

theorem infoV : (Tryd.prog.info? 26).map (fun i => (i.zero, i.size, i.bytes)) = some (some (.agg #[.int .i64 0, .int .i64 0, .string ⟨#[]⟩, .slice none 0 0]), 4, 56) := by kernel_rfl

def kcell (t : VT) (p : Option Addr × Nat) : List Value := [.int .i64 t.kind, .int .i64 t.num, .string t.text, .slice p.1 t.kids.length p.2]
def kcells : List VT → List (Option Addr × Nat) → List Value
  | t :: l, p :: ps => kcell t p ++ kcells l ps
  | _, _ => []
theorem kcells_length : ∀ {l : List VT} {ps : List (Option Addr × Nat)}, ps.length = l.length → (kcells l ps).length = l.length * 4
  | [], [], _ => rfl
  | t :: l, p :: ps, h => by
    simp only [List.length_cons] at h
    rw [kcells, List.length_append, kcells_length (by omega)]; simp [kcell]; omega
theorem kcells_get : ∀ {l : List VT} {ps : List (Option Addr × Nat)} {i r : Nat} {t : VT} {p : Option Addr × Nat}, l[i]? = some t → ps[i]? = some p → r < 4 → (kcells l ps)[i * 4 + r]? = (kcell t p)[r]?
  | [], _, _, _, _, _, h, _, _ => by cases h
  | _ :: _, [], _, _, _, _, _, h, _ => by cases h
  | t :: l, p :: ps, 0, r, u, q, h, h2, hr => by
    rw [List.getElem?_cons_zero] at h h2; cases h; cases h2
    rw [kcells, Nat.zero_mul, Nat.zero_add, List.getElem?_append_left (by simp [kcell]; omega)]
  | t :: l, p :: ps, i + 1, r, u, q, h, h2, hr => by
    rw [List.getElem?_cons_succ] at h h2
    rw [kcells, List.getElem?_append_right (by simp [kcell]; omega), show (i + 1) * 4 + r - (kcell t p).length = i * 4 + r by simp [kcell]; omega]
    exact kcells_get h h2 hr
theorem kcells_snoc : ∀ {l : List VT} {ps : List (Option Addr × Nat)} {t : VT} {p : Option Addr × Nat}, ps.length = l.length → kcells (l ++ [t]) (ps ++ [p]) = kcells l ps ++ kcell t p
  | [], [], _, _, _ => by simp [kcells]
  | t :: l, q :: ps, u, p, h => by
    simp only [List.length_cons] at h
    rw [List.cons_append, List.cons_append, kcells, kcells, kcells_snoc (by omega), List.append_assoc]

/-- The converse of 'KidsAt.get'. -/
theorem KidsAt.mk {w : World} {P : Nat → Prop} {ao : Option Addr} : ∀ {l : List VT} {j : Nat}, (∀ i t, l[i]? = some t → ∃ b off x0 x1 x2 x3, ao = some ⟨b, off, none⟩ ∧ P b ∧ w.cell? ⟨b, off + (j + i) * 4, none⟩ = some x0 ∧ w.cell? ⟨b, off + (j + i) * 4 + 1, none⟩ = some x1 ∧ w.cell? ⟨b, off + (j + i) * 4 + 2, none⟩ = some x2 ∧ w.cell? ⟨b, off + (j + i) * 4 + 3, none⟩ = some x3 ∧ ValIs w P t (.agg #[x0, x1, x2, x3])) → KidsAt w P l ao j
  | [], _, _ => by unfold KidsAt; trivial
  | t :: l, j, h => by
    unfold KidsAt
    refine ⟨?_, KidsAt.mk fun i u hu => ?_⟩
    · have := h 0 t rfl
      rwa [Nat.add_zero] at this
    · have := h (i + 1) u (by rw [List.getElem?_cons_succ]; exact hu)
      rwa [show j + (i + 1) = j + 1 + i by omega] at this

/-- v is a row of the values l, its block and all of theirs from base on; the row's block is none of theirs. -/
def KRow (w : World) (base : Nat) (v : Value) (l : List VT) : Prop :=
  ∃ ps : List (Option Addr × Nat), ps.length = l.length ∧ RowZ w 26 4 v l.length (kcells l ps) ∧ (∀ k, v.ownBlock = some k → base ≤ k) ∧
    ∀ (i : Nat) (t : VT) (p : Option Addr × Nat), l[i]? = some t → ps[i]? = some p → ValIs w (fun b => base ≤ b ∧ b < w.heap.size ∧ v.ownBlock ≠ some b) t (vval t p.1 p.2)

section
variable {w w' : World} {base : Nat} {v : Value} {l : List VT}
theorem KRow.nil (w : World) (base : Nat) : KRow w base (.slice none 0 0) [] := ⟨[], rfl, RowZ.nil _ _ _, fun k h => by simp [Value.ownBlock] at h, fun i t p h => by cases h⟩
/-- New blocks, and turns elsewhere. -/
theorem KRow.below (h : KRow w base v l) (hb : Below w.heap.size w w') : KRow w' base v l := by
  obtain ⟨ps, h1, h2, h3, h4⟩ := h
  refine ⟨ps, h1, h2.below hb (fun k hk => h2.lt hk), h3, fun i t p ht hp => ?_⟩
  exact ((h4 i t p ht hp).below hb (fun b hb => hb.2.1)).mono fun b hb' => ⟨hb'.1, Nat.lt_of_lt_of_le hb'.2.1 hb.size, hb'.2.2⟩
theorem KRow.kids (h : KRow w base v l) : ∃ ao cap, v = .slice ao l.length cap ∧ l.length ≤ cap ∧ cap ≤ maxLen ∧ (ao = none → cap = 0) ∧ KidsAt w (fun b => base ≤ b ∧ b < w.heap.size) l ao 0 := by
  obtain ⟨ps, h1, h2, h3, h4⟩ := h
  obtain ⟨ao, cap, rfl, hle, hm, hn, hs⟩ := h2.form
  refine ⟨ao, cap, rfl, hle, hm, fun e => (hn e).2, KidsAt.mk fun i t ht => ?_⟩
  have hil := (List.getElem?_eq_some_iff.1 ht).1
  obtain ⟨p, hp⟩ : ∃ p, ps[i]? = some p := ⟨_, List.getElem?_eq_getElem (by omega)⟩
  cases ao with
  | none => have := (hn rfl).1; omega
  | some a =>
    obtain ⟨g, rfl, hg, hgb⟩ := hs a rfl
    have hlen := kcells_length h1
    have c : ∀ r, r < 4 → w.cell? ⟨g, i * 4 + r, none⟩ = (kcell t p)[r]? := fun r hr => by
      rw [← kcells_get ht hp hr]
      exact h2.cellAt _ (by rw [hlen]; omega)
    refine ⟨g, 0, _, _, _, _, rfl, ⟨h3 g hgb, hg⟩, ?_, ?_, ?_, ?_, (h4 i t p ht hp).mono fun b hb => ⟨hb.1, hb.2.1⟩⟩
    · rw [Nat.zero_add, Nat.zero_add]; exact c 0 (by omega)
    · rw [Nat.zero_add, Nat.zero_add]; exact c 1 (by omega)
    · rw [Nat.zero_add, Nat.zero_add]; exact c 2 (by omega)
    · rw [Nat.zero_add, Nat.zero_add]; exact c 3 (by omega)
/-- Behind 'append(kids, k)': the new value's box is the block behind the heap. -/
theorem KRow.app {t : VT} {p : Option Addr × Nat} {o : Obj} {g cap : Nat} {ps : List (Option Addr × Nat)} (h1 : ps.length = l.length) (h3 : ∀ k, v.ownBlock = some k → base ≤ k ∧ k < w.heap.size) (hbase : base ≤ w.heap.size)
    (h4 : ∀ (i : Nat) (t : VT) (p : Option Addr × Nat), l[i]? = some t → ps[i]? = some p → ValIs w (fun b => base ≤ b ∧ b < w.heap.size ∧ v.ownBlock ≠ some b) t (vval t p.1 p.2))
    (ht : ValIs w (fun b => base ≤ b ∧ b < w.heap.size ∧ v.ownBlock ≠ some b) t (vval t p.1 p.2))
    (hr : RowZ w' 26 4 (.slice (some ⟨g, 0, none⟩) (l.length + 1) cap) (l.length + 1) (kcells l ps ++ kcell t p)) (hg : (w.alloc o).grownBy w' v.ownBlock) (hl : v.ownBlock = some g ∨ g = (w.alloc o).heap.size) :
    KRow w' base (.slice (some ⟨g, 0, none⟩) (l.length + 1) cap) (l ++ [t]) := by
  have hc : Chg v.ownBlock.toList w w' := ((Chg.refl _ w).alloc o).grown hg (fun k hk => .inl (by simp [hk]))
  have hsz := hc.size
  have hsz2 : w.heap.size + 1 ≤ w'.heap.size := by have := hg.size; simpa using this
  have hgl : g < w'.heap.size := hr.lt rfl
  have keep : ∀ {u : VT} {x : Value}, ValIs w (fun b => base ≤ b ∧ b < w.heap.size ∧ v.ownBlock ≠ some b) u x → ValIs w' (fun b => base ≤ b ∧ b < w'.heap.size ∧ (Value.slice (some ⟨g, 0, none⟩) (l.length + 1) cap).ownBlock ≠ some b) u x := fun hv =>
    (hv.chg hc (fun b hb => ⟨hb.2.1, by simpa using hb.2.2⟩)).mono fun b hb => ⟨hb.1, by omega, by
      simp only [Value.ownBlock, ne_eq, Option.some.injEq]
      rintro rfl
      rcases hl with e | e
      · exact hb.2.2 e
      · simp at e; omega⟩
  refine ⟨ps ++ [p], by simp [h1], ?_, fun k hk => ?_, fun i u q hu hq => ?_⟩
  · rw [kcells_snoc h1, List.length_append]; exact hr
  · simp only [Value.ownBlock, Option.some.injEq] at hk
    subst hk
    rcases hl with e | e
    · exact (h3 _ e).1
    · simp at e; omega
  · by_cases hi : i < l.length
    · rw [List.getElem?_append_left hi] at hu
      rw [List.getElem?_append_left (by omega)] at hq
      exact keep (h4 i u q hu hq)
    · have : i = l.length := by
        have := (List.getElem?_eq_some_iff.1 hu).1
        simp at this; omega
      subst this
      rw [List.getElem?_append_right (Nat.le_refl _), Nat.sub_self] at hu
      rw [List.getElem?_append_right (by omega), h1, Nat.sub_self] at hq
      cases hu; cases hq
      exact keep ht
end
end Go.Proofs.YtenikoecnfbfoaaDoor
/- The reference's Tame: a copy of a value that is cut to so many parts, so deep. -/
namespace Go.Proofs.YtenikoecnfbfoaaDoor
open Go.RowKit Go.Maps
set_option linter.unusedVariables false

def cutText (s : ByteArray) : ByteArray := s.extract 0 (min s.size 5000)
namespace VT
mutual
def tame : VT → Int → Int → VT × Int
  | node k n s l, d, left => (node k n (cutText s) (tames l 12 d (left - 1)).1, (tames l 12 d (left - 1)).2)
def tames : List VT → Nat → Int → Int → List VT × Int
  | [], _, _, left => ([], left)
  | t :: ts, m, d, left => if 0 < m ∧ 1 < d ∧ 0 < left then ((tame t (d - 1) left).1 :: (tames ts (m - 1) d (tame t (d - 1) left).2).1, (tames ts (m - 1) d (tame t (d - 1) left).2).2) else ([], left)
end
mutual
theorem tame_left : ∀ (t : VT) (d left : Int), -1000 ≤ left → left ≤ 1000 → -1001 ≤ (tame t d left).2 ∧ (tame t d left).2 ≤ 1000 ∧ (0 < left → -1000 ≤ (tame t d left).2)
  | node k n s l, d, left, h1, h2 => by
    rw [tame]
    have := tames_left l 12 d (left - 1) (by omega) (by omega)
    simp only
    refine ⟨by omega, by omega, fun h => ?_⟩
    have := this.2.2 (by omega)
    omega
theorem tames_left : ∀ (l : List VT) (m : Nat) (d left : Int), -1001 ≤ left → left ≤ 1000 → -1001 ≤ (tames l m d left).2 ∧ (tames l m d left).2 ≤ 1000 ∧ (-1000 ≤ left → -1000 ≤ (tames l m d left).2)
  | [], m, d, left, h1, h2 => by rw [tames]; exact ⟨h1, h2, fun h => h⟩
  | t :: ts, m, d, left, h1, h2 => by
    rw [tames]
    split
    · rename_i hc
      have a := tame_left t (d - 1) left (by omega) h2
      have b := tames_left ts (m - 1) d (tame t (d - 1) left).2 (by omega) (by omega)
      simp only
      exact ⟨b.1, b.2.1, fun h => b.2.2 (a.2.2 hc.2.2)⟩
    · exact ⟨h1, h2, fun h => h⟩
end
end VT

theorem ValIs.form {w : World} {P : Nat → Prop} {t : VT} {v : Value} (h : ValIs w P t v) : ∃ ao cap, v = vval t ao cap := by
  cases t with
  | node k n s l => unfold ValIs at h; obtain ⟨ao, cap, h, _⟩ := h; exact ⟨ao, cap, h⟩
theorem cell_four_new (w : World) (a b c d : Value) (t : TypeId) : ∀ (j : Nat) (u : Value), [a, b, c, d][j]? = some u → (w.alloc (.cells #[a, b, c, d] t)).cell? (Addr.add ⟨w.heap.size, 0, none⟩ j) = some u := by
  intro j u hj
  have hlt := (List.getElem?_eq_some_iff.1 hj).1
  simp at hlt
  have e : (Addr.add ⟨w.heap.size, 0, none⟩ j) = ⟨w.heap.size, j, none⟩ := by unfold Addr.add; split <;> simp_all
  rw [e]
  have : j = 0 ∨ j = 1 ∨ j = 2 ∨ j = 3 := by omega
  rcases this with rfl | rfl | rfl | rfl <;> simpa using hj
theorem cell_four_new2 (w : World) (o : Obj) (a b c d : Value) (t : TypeId) : ∀ (j : Nat) (u : Value), [a, b, c, d][j]? = some u → ((w.alloc o).alloc (.cells #[a, b, c, d] t)).cell? (Addr.add ⟨w.heap.size + 1, 0, none⟩ j) = some u := by
  have := cell_four_new (w.alloc o) a b c d t
  simpa using this
theorem kcell_one (t : VT) (p : Option Addr × Nat) : ∀ u ∈ kcell t p, u.oneCell' = true := by
  intro u hu
  simp only [kcell, List.mem_cons, List.not_mem_nil, or_false] at hu
  rcases hu with rfl | rfl | rfl | rfl <;> rfl
theorem RowZ.alloc {w : World} {e : TypeId} {sz n : Nat} {v : Value} {xs : List Value} (h : RowZ w e sz v n xs) (o : Obj) : RowZ (w.alloc o) e sz v n xs := h.chg ((Chg.refl [] w).alloc o) (fun _ _ => by simp)

def TameEnd (w : World) (r : VT × Int) (e : Ending) (w' : World) : Prop :=
  ∃ v, e = .returned (.tuple #[v, .int .i64 r.2]) ∧ ValIs w' (fun b => w.heap.size ≤ b ∧ b < w'.heap.size) r.1 v ∧ Below w.heap.size w w'
def TameLoop (base : Nat) (W : World) (l : List VT) (d left : Int) (k : Nat) (s8 s9 s2 : Value) (w : World) : Prop :=
  ∃ (i : Nat) (l' : List VT) (q : Int), s9 = .int .i64 i ∧ s2 = .int .i64 q ∧ KRow w base s8 l' ∧ l'.length = i ∧ i + k = 12 ∧ -1001 ≤ q ∧ q ≤ 1000 ∧ VT.tames l 12 d left = (l' ++ (VT.tames (l.drop i) (12 - i) d q).1, (VT.tames (l.drop i) (12 - i) d q).2) ∧ Below base W w

theorem kids_app {wr w5 w' : World} {base g cap : Nat} {v : Value} {l : List VT} {ps : List (Option Addr × Nat)} {t : VT} {p : Option Addr × Nat} {o1 o2 : Obj} (hk : KRow wr base v l) (hbs : base ≤ wr.heap.size) (hb5 : Below wr.heap.size wr w5) (k1 : ps.length = l.length)
    (k3 : ∀ k, v.ownBlock = some k → base ≤ k)
    (k4 : ∀ (i : Nat) (t : VT) (p : Option Addr × Nat), l[i]? = some t → ps[i]? = some p → ValIs w5 (fun b => base ≤ b ∧ b < w5.heap.size ∧ v.ownBlock ≠ some b) t (vval t p.1 p.2))
    (hv : ValIs w5 (fun b => wr.heap.size ≤ b ∧ b < w5.heap.size) t (vval t p.1 p.2))
    (hr : RowZ w' 26 4 (.slice (some ⟨g, 0, none⟩) (l.length + 1) cap) (l.length + 1) (kcells l ps ++ kcell t p)) (hg : ((w5.alloc o1).alloc o2).grownBy w' v.ownBlock) (hl : v.ownBlock = some g ∨ g = ((w5.alloc o1).alloc o2).heap.size) :
    KRow w' base (.slice (some ⟨g, 0, none⟩) (l.length + 1) cap) (l ++ [t]) ∧ Below base wr w' := by
  have hlt : ∀ k, v.ownBlock = some k → k < wr.heap.size := fun k hk' => by obtain ⟨_, _, h2, _, _⟩ := hk; exact h2.lt hk'
  have hA : Below w5.heap.size w5 (w5.alloc o1) := (Below.refl _ _).alloc (Nat.le_refl _) _
  have hs5 := hb5.size
  refine ⟨KRow.app (w := w5.alloc o1) k1 (fun k hk' => ⟨k3 k hk', by have := hlt k hk'; simp; omega⟩) (by simp; omega) (fun i t p ht hp => ?_) ?_ hr hg hl, ?_⟩
  · exact ((k4 i t p ht hp).below hA (fun b hb => hb.2.1)).mono fun b hb => ⟨hb.1, by have := hb.2.1; simp; omega, hb.2.2⟩
  · exact (hv.below hA (fun b hb => hb.2)).mono fun b hb => ⟨by omega, by have := hb.2; simp; omega, fun e => by have := hlt b e; omega⟩
  · have hc : Chg v.ownBlock.toList wr w' := ((((Chg.refl _ wr).thenBelow hb5).alloc o1).alloc o2).grown hg (fun k hk => .inl (by simp [hk]))
    exact hc.below hbs (fun k hk' => k3 k (by simpa using hk'))

theorem hdr4_set {w : World} {p : Nat} {a b c d u : Value} {t : TypeId} {o : Nat} (h : w.heap[p]? = some (.cells #[a, b, c, d] t (0, 0))) : (w.setCell ⟨p, o, none⟩ u).heap[p]? = some (.cells (#[a, b, c, d].setIfInBounds o u) t (0, 0)) := by
  have hlt := lt_of_block h
  have h' : w.heap[p] = .cells #[a, b, c, d] t (0, 0) := by simpa [Array.getElem?_eq_getElem hlt] using h
  show (w.heap.modify p _)[p]? = _
  rw [Array.getElem?_eq_getElem (by simpa using hlt), Array.getElem_modify_self, h']
  rfl
theorem chg1_set (w : World) (p o : Nat) (u : Value) : Chg [p] w (w.setCell ⟨p, o, none⟩ u) := (Chg.refl [p] w).setCell (.inl (by simp)) u
/-- What the six stores at the end leave. -/
theorem six_stores {w : World} {H : Nat} {a b c d x3 x2 y0 y1 y2 y3 : Value} {t : TypeId} (h : w.heap[H + 1]? = some (.cells #[a, b, c, d] t (0, 0))) :
    ((((((w.setCell ⟨H, 3, none⟩ x3).setCell ⟨H, 2, none⟩ x2).setCell ⟨H + 1, 0, none⟩ y0).setCell ⟨H + 1, 1, none⟩ y1).setCell ⟨H + 1, 2, none⟩ y2).setCell ⟨H + 1, 3, none⟩ y3).heap[H + 1]? = some (.cells #[y0, y1, y2, y3] t (0, 0)) ∧
    Chg [H, H + 1] w ((((((w.setCell ⟨H, 3, none⟩ x3).setCell ⟨H, 2, none⟩ x2).setCell ⟨H + 1, 0, none⟩ y0).setCell ⟨H + 1, 1, none⟩ y1).setCell ⟨H + 1, 2, none⟩ y2).setCell ⟨H + 1, 3, none⟩ y3) := by
  have hlt := lt_of_block h
  have c1 : Chg [H] w ((w.setCell ⟨H, 3, none⟩ x3).setCell ⟨H, 2, none⟩ x2) := ((Chg.refl [H] w).setCell (p := ⟨H, 3, none⟩) (.inl (by simp)) _).setCell (p := ⟨H, 2, none⟩) (.inl (by simp)) _
  have h1 := (c1.block (H + 1) hlt (by simp)).trans h
  have h2 := hdr4_set (o := 0) (u := y0) h1
  have h3 := hdr4_set (o := 1) (u := y1) (a := y0) (b := b) (c := c) (d := d) (h2.trans rfl)
  have h4 := hdr4_set (o := 2) (u := y2) (a := y0) (b := y1) (c := c) (d := d) (h3.trans rfl)
  have h5 := hdr4_set (o := 3) (u := y3) (a := y0) (b := y1) (c := y2) (d := d) (h4.trans rfl)
  refine ⟨h5.trans rfl, ?_⟩
  refine (((((c1.mono (by simp)).setCell (p := ⟨H + 1, 0, none⟩) (.inl (by simp)) _).setCell (p := ⟨H + 1, 1, none⟩) (.inl (by simp)) _).setCell (p := ⟨H + 1, 2, none⟩) (.inl (by simp)) _).setCell (p := ⟨H + 1, 3, none⟩) (.inl (by simp)) _)

theorem tame_end {w W2 wr wz : World} {t : VT} {d left q : Int} {ka na : Int} {sa : ByteArray} {la l' : List VT} {ao' : Option Addr} {cap' : Nat} (hsz : W2.heap.size = w.heap.size + 2) (hB2 : Below w.heap.size w W2) (hbe : Below W2.heap.size W2 wr) (hc : Chg [w.heap.size, w.heap.size + 1] wr wz)
    (ht : (VT.node ka na sa la).tame d left = (VT.node ka na (cutText sa) l', q)) (h1 : l'.length ≤ cap') (h2 : cap' ≤ maxLen) (h3 : (cutText sa).size ≤ maxLen) (h4 : (Lit.int .i64 ka).wf = true) (h5 : (Lit.int .i64 na).wf = true) (h6 : ao' = none → cap' = 0)
    (hk : KidsAt wr (fun b => W2.heap.size ≤ b ∧ b < wr.heap.size) l' ao' 0) : TameEnd w ((VT.node ka na sa la).tame d left) (.returned (.tuple #[.agg #[.int .i64 ka, .int .i64 na, .string (cutText sa), .slice ao' l'.length cap'], .int .i64 q])) wz := by
  rw [ht]
  refine ⟨_, rfl, ?_, ?_⟩
  · have hv : ValIs wr (fun b => W2.heap.size ≤ b ∧ b < wr.heap.size) (VT.node ka na (cutText sa) l') (.agg #[.int .i64 ka, .int .i64 na, .string (cutText sa), .slice ao' l'.length cap']) := by
      unfold ValIs; exact ⟨ao', cap', rfl, h1, h2, h3, h4, h5, h6, hk⟩
    exact (hv.chg hc (fun b hb => ⟨hb.2, by simp; omega⟩)).mono fun b hb => ⟨by omega, Nat.lt_of_lt_of_le hb.2 hc.size⟩
  · have hsr := hbe.size
    exact (hB2.trans (hbe.mono (by omega))).trans (hc.below (by omega) (by simp))

end Go.Proofs.YtenikoecnfbfoaaDoor
