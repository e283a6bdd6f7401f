/- The program's put: a value's bytes behind others. -/
import Derived.Test.YtofmbpmmgpbdbaaDoorOwn
import Derived.Outline
namespace Go.Proofs.YtofmbpmmgpbdbaaDoor
open Go.RowKit Go.Maps Wr
set_option linter.unusedVariables false

namespace VT
mutual
theorem put_len {L : Nat} : ∀ (t : VT) (b : List UInt8) (d : Int), t.right d = true → (put L t b).length ≤ max b.length (L + 4116)
  | node k n s l, b, d, h => by
    obtain ⟨h1, h2, h3⟩ := right_parts h
    rw [put]
    split
    · omega
    · have a := topOf_len h1
      have f := fits_parts h1
      have c := num_len (n := k) (by omega) (by omega)
      have := puts_len (L := L) l (b ++ Wr.num k ++ topOf k n s l.length) (d + 1) h2
      rw [List.length_append, List.length_append] at this
      omega
theorem puts_len {L : Nat} : ∀ (l : List VT) (b : List UInt8) (d : Int), rights l d = true → (puts L l b).length ≤ max b.length (L + 4116)
  | [], b, d, _ => by rw [puts]; omega
  | t :: l, b, d, h => by
    rw [rights_cons, Bool.and_eq_true] at h
    rw [puts]
    have h1 := put_len (L := L) t b d h.1
    have h2 := puts_len (L := L) l (put L t b) d h.2
    omega
end
end VT

theorem box_cells {w w' : World} {v v' a b c d : Value} {t : TypeId} (h : OwnStep (w.alloc (.cells #[a, b, c, d] t)) v w' v') (hv : v.ownBlock ≠ some w.heap.size) :
    w'.cell? ⟨w.heap.size, 0, none⟩ = some a ∧ w'.cell? ⟨w.heap.size, 1, none⟩ = some b ∧ w'.cell? ⟨w.heap.size, 2, none⟩ = some c ∧ w'.cell? ⟨w.heap.size, 3, none⟩ = some d := by
  have hb := (h.block (i := w.heap.size) (by simp) hv).trans (heap_alloc_new w _)
  simp [World.cell?, hb]
def PutEnd (w : World) (N : Nat) (v : Value) (l : List UInt8) (e : Ending) (w' : World) : Prop := ∃ v', e = .returned v' ∧ ByteRow w' N v' l ∧ OwnStep w v w' v'
def PutLoop (N : Nat) (W : World) (v : Value) (L : Nat) (l : List VT) (b : List UInt8) (k : Nat) (s0 s1 : Value) (w : World) : Prop :=
  ∃ (i : Nat) (b' : List UInt8), s1 = .int .i64 i ∧ i + k = l.length ∧ ByteRow w N s0 b' ∧ VT.puts L l b = VT.puts L (l.drop i) b' ∧ b'.length ≤ 100000 ∧ OwnStep W v w s0
theorem PutEnd.boxed {w w' : World} {N : Nat} {v : Value} {l : List UInt8} {e : Ending} {o : Obj} (h : PutEnd (w.alloc o) N v l e w') (hv : ∀ k, v.ownBlock = some k → k < w.heap.size) : PutEnd w N v l e w' := by
  obtain ⟨v', h1, h2, h3⟩ := h
  exact ⟨v', h1, h2, (OwnStep.made v ((Below.refl _ _).alloc (Nat.le_refl _) o)).trans h3⟩

section
variable (L : Nat) (k : Nat) (ih : ∀ (t : VT) (vt : Value) (w : World) (P : Nat → Prop) (d : Int) (N : Nat) (v : Value) (b : List UInt8), t.sz ≤ k → t.right d = true → ValIs w P t vt → (∀ x, P x → x < w.heap.size ∧ v.ownBlock ≠ some x) → ByteRow w N v b → N ≤ w.heap.size → b.length ≤ 100000 →
    Calls Tryd.prog 29 #[v, vt] w (PutEnd w N v (t.put 16384 b)))
include ih in
set_option maxRecDepth 100000 in
set_option maxHeartbeats 3200000 in
theorem put_6 (na : Int) (sa : ByteArray) (la : List VT) (w : World) (P : Nat → Prop) (d : Int) (N : Nat) (v : Value) (b : List UInt8) (ao : Option Addr) (cap : Nat) (hk : (VT.node 6 na sa la).sz ≤ k + 1) (hr : (VT.node 6 na sa la).right d = true)
    (a1 : la.length ≤ cap) (a2 : cap ≤ maxLen) (a7 : KidsAt w P la ao 0) (hP : ∀ x, P x → x < w.heap.size ∧ v.ownBlock ≠ some x) (hrow : ByteRow w N v b) (hN : N ≤ w.heap.size) (hb : b.length ≤ 16384) :
    Calls Tryd.prog 29 #[v, .agg #[.int .i64 6, .int .i64 na, .string sa, .slice ao la.length cap]] w (PutEnd w N v ((VT.node 6 na sa la).put 16384 b)) := by
  obtain ⟨hf, hrs', hd⟩ := VT.right_parts hr
  have hrs := Lib.hid hrs'
  have HR := Lib.hid hrow
  obtain ⟨ao0, cap0, rfl, hc0, hc1⟩ := hrow.form
  unfold maxLen at a2 hc1
  have hfp := fits_parts hf
  have HT := Lib.hid (topOf_len hf)
  have hpt : Hid ((VT.node 6 na sa la).put 16384 b = VT.puts 16384 la (b ++ num 6 ++ topOf 6 na sa la.length)) := by show _ = _; rw [VT.put_node, if_neg (by omega)]
  have HB1 : Hid (ByteRow (w.alloc (.cells #[.int .i64 6, .int .i64 na, .string sa, .slice ao la.length cap] 24)) N (.slice ao0 b.length cap0) b) := hrow.below ((Below.refl _ _).alloc (Nat.le_refl _) _)
  have hnk := Lib.hid (num_len (n := 6) (by omega) (by omega))
  have HNK : Hid (∀ W, Calls Tryd.prog 53 #[.int .i64 6] W (RowEnd W W.heap.size (num 6))) := fun W => wireNum_any 6 W (by omega) (by omega)
  have hvo : Hid ((Value.slice ao0 b.length cap0).ownBlock ≠ some w.heap.size) := fun e => by have := HR.out.lt e; omega
  clear hrow hr hrs'
  have hb2 : (b.length : Int) ≤ 16384 := by omega
  go_enter Tryd.func29, Tryd.ntmps29
  go_wp2_with
    (first
     | ((go_at_call 53; refine (HNK.out _).mono ?_; rintro e w5 ⟨v5, rfl, hr5, hb5⟩; have R5 := Lib.hid hr5; have B5 := Lib.hid hb5; clear hr5 hb5 HNK))
     | (at_builtin; (refine wpList_appb (w := w5) rfl _ _ rfl (v := .slice ao0 b.length cap0) (vx := v5) rfl (HB1.out.below B5.out) rfl R5.out (num_ne _) (by have := B5.out.size; simp at this; omega) (by have := hnk.out; omega) ?_; intro v6 w6 hr6 ho6; have R6 := Lib.hid hr6; have O6 : Hid (OwnStep _ _ w6 v6) := (OwnStep.made _ B5.out).trans ho6; clear hr6 ho6; clear HB1; obtain ⟨c60, c61, c62, c63⟩ := box_cells O6.out hvo.out)))
  have hbz : Hid ((b ++ num 6 ++ topOf 6 na sa la.length).length ≤ 100000) := by have := hnk.out; have := HT.out; show _ ≤ 100000; rw [List.length_append, List.length_append]; omega
  have RZ : Hid (ByteRow w6 N v6 (b ++ num 6 ++ topOf 6 na sa la.length)) := by
    have e : topOf 6 na sa la.length = [] := by simp [topOf]
    show ByteRow _ _ _ _
    rw [e, List.append_nil]; exact R6.out
  have hbox : Hid (w6.heap[w.heap.size]? = some (.cells #[.int .i64 6, .int .i64 na, .string sa, .slice ao la.length cap] 24 (0, 0))) := (O6.out.block (by simp) (fun e => by have := HR.out.lt e; omega)).trans (heap_alloc_new w _)
  have HL : Hid (PutLoop N w6 v6 16384 la (b ++ num 6 ++ topOf 6 na sa la.length) la.length v6 (.int .i64 0) w6) := ⟨0, (b ++ num 6 ++ topOf 6 na sa la.length), rfl, by omega, RZ.out, rfl, hbz.out, OwnStep.refl _ _⟩
  go_loopg [0, 57] la.length (fun k s0 s1 wr => PutLoop N w6 v6 16384 la (b ++ num 6 ++ topOf 6 na sa la.length) k s0 s1 wr)
  case atStart => exact HL.out
  case round =>
    clear HL
    obtain ⟨i, b', rfl, hik, hrow, hput, hbl, hown⟩ := hrel
    have HROW := Lib.hid hrow
    have HPUT := Lib.hid hput
    have HBL := Lib.hid hbl
    have HOWN := Lib.hid hown
    have OW : Hid (OwnStep (w.alloc (.cells #[.int .i64 6, .int .i64 na, .string sa, .slice ao la.length cap] 24)) (.slice ao0 b.length cap0) wr u0) := O6.out.trans hown
    clear hrow hput hbl hown
    by_cases hlt : i < la.length
    · obtain ⟨tk, htk⟩ : ∃ u, la[i]? = some u := ⟨_, List.getElem?_eq_getElem hlt⟩
      obtain ⟨bb, oo, _, _, _, _, rfl, hbb, _⟩ := a7.get htk
      obtain ⟨_, aok, capk, p0, p1, p2, p3, hvk⟩ := a7.cells htk
      unfold vval at hvk
      rw [Nat.zero_add] at p0 p1 p2 p3
      have hbb' := hP _ hbb
      have hblk : wr.heap[bb]? = w.heap[bb]? := (OW.out.block (by simp; omega) hbb'.2).trans (heap_alloc_old _ _ hbb'.1)
      have cc : ∀ j, wr.cell? ⟨bb, j, none⟩ = w.cell? ⟨bb, j, none⟩ := fun j => by simp [World.cell?, hblk]
      replace p0 := (cc _).trans p0
      replace p1 := (cc _).trans p1
      replace p2 := (cc _).trans p2
      replace p3 := (cc _).trans p3
      have hvk' : Hid (ValIs wr P tk (.agg #[.int .i64 tk.kind, .int .i64 tk.num, .string tk.text, .slice aok tk.kids.length capk])) := (hvk.below ((Below.refl _ _).alloc (Nat.le_refl _) _) (fun b hb => (hP b hb).1)).own OW.out (fun b hb => ⟨by have := (hP b hb).1; simp; omega, (hP b hb).2⟩)
      have HPB : Hid (∀ x, P x → x < wr.heap.size ∧ u0.ownBlock ≠ some x) := fun x hx => ⟨by have := (hP x hx).1; have := OW.out.size; simp at this; omega, OW.out.apart (by have := (hP x hx).1; simp; omega) (hP x hx).2⟩
      have hkid : Hid (tk.sz ≤ k) := by
        have h5 : tk.sz < (VT.node 6 na sa la).sz := VT.sz_kid (t := VT.node 6 na sa la) htk
        show tk.sz ≤ k; omega
      have hrk := Lib.hid (VT.rights_get hrs.out htk)
      have hdrop := Lib.hid (VT.drop_kid htk)
      have g1' : (i : Int) < (la.length : Int) := by omega
      have hi0 : (0 : Int) ≤ (i : Int) := by omega
      have hNr : Hid (N ≤ wr.heap.size) := by have := OW.out.size; simp at this; show N ≤ wr.heap.size; omega
      clear hvk htk cc hblk
      go_wp2_with ((go_at_call 29; refine (ih tk _ _ P (d + 1) N u0 b' hkid.out hrk.out (hvk'.out.below ((Below.refl _ _).alloc (Nat.le_refl _) _) (fun b hb => (HPB.out b hb).1)) (fun x hx => ⟨by have := (HPB.out x hx).1; simp; omega, (HPB.out x hx).2⟩) (HROW.out.below ((Below.refl _ _).alloc (Nat.le_refl _) _)) (by have := hNr.out; simp; omega) HBL.out).mono ?_; rintro e w7 ⟨v7, rfl, hr7, ho7⟩; have HR7 := Lib.hid hr7; have HO7 := Lib.hid ho7; clear hr7 ho7))
      go_roundg (gk - 1)
      case measure => omega
      case rel => exact ⟨i + 1, _, by go_num, by omega, HR7.out, by rw [HPUT.out, hdrop.out, VT.puts_cons], by have := VT.put_len (L := 16384) tk b' (d + 1) hrk.out; have := HBL.out; omega, HOWN.out.trans ((OwnStep.made u0 ((Below.refl _ _).alloc (Nat.le_refl _) _)).trans HO7.out)⟩
    · obtain rfl : i = la.length := by omega
      go_wp2
      go_ret
      refine PutEnd.boxed (o := .cells #[.int .i64 6, .int .i64 na, .string sa, .slice ao la.length cap] 24) ⟨_, rfl, ?_, OW.out⟩ (fun k hk => HR.out.lt hk)
      rw [hpt.out, HPUT.out, List.drop_length, VT.puts_nil]
      exact HROW.out

include ih in
set_option maxRecDepth 100000 in
set_option maxHeartbeats 3200000 in
theorem put_0 (na : Int) (sa : ByteArray) (la : List VT) (w : World) (P : Nat → Prop) (d : Int) (N : Nat) (v : Value) (b : List UInt8) (ao : Option Addr) (cap : Nat) (hk : (VT.node 0 na sa la).sz ≤ k + 1) (hr : (VT.node 0 na sa la).right d = true)
    (a1 : la.length ≤ cap) (a2 : cap ≤ maxLen) (a7 : KidsAt w P la ao 0) (hP : ∀ x, P x → x < w.heap.size ∧ v.ownBlock ≠ some x) (hrow : ByteRow w N v b) (hN : N ≤ w.heap.size) (hb : b.length ≤ 16384) :
    Calls Tryd.prog 29 #[v, .agg #[.int .i64 0, .int .i64 na, .string sa, .slice ao la.length cap]] w (PutEnd w N v ((VT.node 0 na sa la).put 16384 b)) := by
  obtain ⟨hf, hrs', hd⟩ := VT.right_parts hr
  have hrs := Lib.hid hrs'
  have HR := Lib.hid hrow
  obtain ⟨ao0, cap0, rfl, hc0, hc1⟩ := hrow.form
  unfold maxLen at a2 hc1
  have hfp := fits_parts hf
  have HT := Lib.hid (topOf_len hf)
  have hpt : Hid ((VT.node 0 na sa la).put 16384 b = VT.puts 16384 la (b ++ num 0 ++ topOf 0 na sa la.length)) := by show _ = _; rw [VT.put_node, if_neg (by omega)]
  have HB1 : Hid (ByteRow (w.alloc (.cells #[.int .i64 0, .int .i64 na, .string sa, .slice ao la.length cap] 24)) N (.slice ao0 b.length cap0) b) := hrow.below ((Below.refl _ _).alloc (Nat.le_refl _) _)
  have hnk := Lib.hid (num_len (n := 0) (by omega) (by omega))
  have HNK : Hid (∀ W, Calls Tryd.prog 53 #[.int .i64 0] W (RowEnd W W.heap.size (num 0))) := fun W => wireNum_any 0 W (by omega) (by omega)
  have hvo : Hid ((Value.slice ao0 b.length cap0).ownBlock ≠ some w.heap.size) := fun e => by have := HR.out.lt e; omega
  clear hrow hr hrs'
  have hb2 : (b.length : Int) ≤ 16384 := by omega
  have hna := Lib.hid (num_len (n := na) (by omega) (by omega))
  have HNA : Hid (∀ W, Calls Tryd.prog 53 #[.int .i64 na] W (RowEnd W W.heap.size (num na))) := fun W => wireNum_any na W (by omega) (by omega)
  go_enter Tryd.func29, Tryd.ntmps29
  go_wp2_with
    (first
     | ((go_at_call 53; refine (HNK.out _).mono ?_; rintro e w5 ⟨v5, rfl, hr5, hb5⟩; have R5 := Lib.hid hr5; have B5 := Lib.hid hb5; clear hr5 hb5 HNK))
     | ((go_at_call 53; refine (HNA.out _).mono ?_; rintro e w7 ⟨v7, rfl, hr7, hb7⟩; have R7 := Lib.hid hr7; have B7 := Lib.hid hb7; clear hr7 hb7))
     | (at_builtin; (refine wpList_appb (w := w5) rfl _ _ rfl (v := .slice ao0 b.length cap0) (vx := v5) rfl (HB1.out.below B5.out) rfl R5.out (num_ne _) (by have := B5.out.size; simp at this; omega) (by have := hnk.out; omega) ?_; intro v6 w6 hr6 ho6; have R6 := Lib.hid hr6; have O6 : Hid (OwnStep _ _ w6 v6) := (OwnStep.made _ B5.out).trans ho6; clear hr6 ho6; clear HB1; obtain ⟨c60, c61, c62, c63⟩ := box_cells O6.out hvo.out))
     | (at_builtin; (refine wpList_appb (w := w7) rfl _ _ rfl (v := v6) (vx := v7) rfl (R6.out.below B7.out) rfl R7.out (num_ne _) (by have := B7.out.size; have := O6.out.size; simp at this; omega) (by have := hnk.out; have := hna.out; rw [List.length_append]; omega) ?_; intro v8 w8 hr8 ho8; have R8 := Lib.hid hr8; have O8 : Hid (OwnStep _ _ w8 v8) := O6.out.trans ((OwnStep.made _ B7.out).trans ho8); clear hr8 ho8; obtain ⟨c80, c81, c82, c83⟩ := box_cells O8.out hvo.out)))
  have e : topOf 0 na sa la.length = num na := by simp [topOf]
  have hbz : Hid ((b ++ num 0 ++ topOf 0 na sa la.length).length ≤ 100000) := by have := hnk.out; have := HT.out; show _ ≤ 100000; rw [List.length_append, List.length_append]; omega
  have RZ : Hid (ByteRow w8 N v8 (b ++ num 0 ++ topOf 0 na sa la.length)) := by show ByteRow _ _ _ _; rw [e]; exact R8.out
  clear e
  have hbox : Hid (w8.heap[w.heap.size]? = some (.cells #[.int .i64 0, .int .i64 na, .string sa, .slice ao la.length cap] 24 (0, 0))) := (O8.out.block (by simp) (fun e => by have := HR.out.lt e; omega)).trans (heap_alloc_new w _)
  have HL : Hid (PutLoop N w8 v8 16384 la (b ++ num 0 ++ topOf 0 na sa la.length) la.length v8 (.int .i64 0) w8) := ⟨0, (b ++ num 0 ++ topOf 0 na sa la.length), rfl, by omega, RZ.out, rfl, hbz.out, OwnStep.refl _ _⟩
  go_loopg [0, 57] la.length (fun k s0 s1 wr => PutLoop N w8 v8 16384 la (b ++ num 0 ++ topOf 0 na sa la.length) k s0 s1 wr)
  case atStart => exact HL.out
  case round =>
    clear HL
    obtain ⟨i, b', rfl, hik, hrow, hput, hbl, hown⟩ := hrel
    have HROW := Lib.hid hrow
    have HPUT := Lib.hid hput
    have HBL := Lib.hid hbl
    have HOWN := Lib.hid hown
    have OW : Hid (OwnStep (w.alloc (.cells #[.int .i64 0, .int .i64 na, .string sa, .slice ao la.length cap] 24)) (.slice ao0 b.length cap0) wr u0) := O8.out.trans hown
    clear hrow hput hbl hown
    by_cases hlt : i < la.length
    · obtain ⟨tk, htk⟩ : ∃ u, la[i]? = some u := ⟨_, List.getElem?_eq_getElem hlt⟩
      obtain ⟨bb, oo, _, _, _, _, rfl, hbb, _⟩ := a7.get htk
      obtain ⟨_, aok, capk, p0, p1, p2, p3, hvk⟩ := a7.cells htk
      unfold vval at hvk
      rw [Nat.zero_add] at p0 p1 p2 p3
      have hbb' := hP _ hbb
      have hblk : wr.heap[bb]? = w.heap[bb]? := (OW.out.block (by simp; omega) hbb'.2).trans (heap_alloc_old _ _ hbb'.1)
      have cc : ∀ j, wr.cell? ⟨bb, j, none⟩ = w.cell? ⟨bb, j, none⟩ := fun j => by simp [World.cell?, hblk]
      replace p0 := (cc _).trans p0
      replace p1 := (cc _).trans p1
      replace p2 := (cc _).trans p2
      replace p3 := (cc _).trans p3
      have hvk' : Hid (ValIs wr P tk (.agg #[.int .i64 tk.kind, .int .i64 tk.num, .string tk.text, .slice aok tk.kids.length capk])) := (hvk.below ((Below.refl _ _).alloc (Nat.le_refl _) _) (fun b hb => (hP b hb).1)).own OW.out (fun b hb => ⟨by have := (hP b hb).1; simp; omega, (hP b hb).2⟩)
      have HPB : Hid (∀ x, P x → x < wr.heap.size ∧ u0.ownBlock ≠ some x) := fun x hx => ⟨by have := (hP x hx).1; have := OW.out.size; simp at this; omega, OW.out.apart (by have := (hP x hx).1; simp; omega) (hP x hx).2⟩
      have hkid : Hid (tk.sz ≤ k) := by
        have h5 : tk.sz < (VT.node 0 na sa la).sz := VT.sz_kid (t := VT.node 0 na sa la) htk
        show tk.sz ≤ k; omega
      have hrk := Lib.hid (VT.rights_get hrs.out htk)
      have hdrop := Lib.hid (VT.drop_kid htk)
      have g1' : (i : Int) < (la.length : Int) := by omega
      have hi0 : (0 : Int) ≤ (i : Int) := by omega
      have hNr : Hid (N ≤ wr.heap.size) := by have := OW.out.size; simp at this; show N ≤ wr.heap.size; omega
      clear hvk htk cc hblk
      go_wp2_with ((go_at_call 29; refine (ih tk _ _ P (d + 1) N u0 b' hkid.out hrk.out (hvk'.out.below ((Below.refl _ _).alloc (Nat.le_refl _) _) (fun b hb => (HPB.out b hb).1)) (fun x hx => ⟨by have := (HPB.out x hx).1; simp; omega, (HPB.out x hx).2⟩) (HROW.out.below ((Below.refl _ _).alloc (Nat.le_refl _) _)) (by have := hNr.out; simp; omega) HBL.out).mono ?_; rintro e w7 ⟨v7, rfl, hr7, ho7⟩; have HR7 := Lib.hid hr7; have HO7 := Lib.hid ho7; clear hr7 ho7))
      go_roundg (gk - 1)
      case measure => omega
      case rel => exact ⟨i + 1, _, by go_num, by omega, HR7.out, by rw [HPUT.out, hdrop.out, VT.puts_cons], by have := VT.put_len (L := 16384) tk b' (d + 1) hrk.out; have := HBL.out; omega, HOWN.out.trans ((OwnStep.made u0 ((Below.refl _ _).alloc (Nat.le_refl _) _)).trans HO7.out)⟩
    · obtain rfl : i = la.length := by omega
      go_wp2
      go_ret
      refine PutEnd.boxed (o := .cells #[.int .i64 0, .int .i64 na, .string sa, .slice ao la.length cap] 24) ⟨_, rfl, ?_, OW.out⟩ (fun k hk => HR.out.lt hk)
      rw [hpt.out, HPUT.out, List.drop_length, VT.puts_nil]
      exact HROW.out

include ih in
set_option maxRecDepth 100000 in
set_option maxHeartbeats 3200000 in
theorem put_5 (na : Int) (sa : ByteArray) (la : List VT) (w : World) (P : Nat → Prop) (d : Int) (N : Nat) (v : Value) (b : List UInt8) (ao : Option Addr) (cap : Nat) (hk : (VT.node 5 na sa la).sz ≤ k + 1) (hr : (VT.node 5 na sa la).right d = true)
    (a1 : la.length ≤ cap) (a2 : cap ≤ maxLen) (a7 : KidsAt w P la ao 0) (hP : ∀ x, P x → x < w.heap.size ∧ v.ownBlock ≠ some x) (hrow : ByteRow w N v b) (hN : N ≤ w.heap.size) (hb : b.length ≤ 16384) :
    Calls Tryd.prog 29 #[v, .agg #[.int .i64 5, .int .i64 na, .string sa, .slice ao la.length cap]] w (PutEnd w N v ((VT.node 5 na sa la).put 16384 b)) := by
  obtain ⟨hf, hrs', hd⟩ := VT.right_parts hr
  have hrs := Lib.hid hrs'
  have HR := Lib.hid hrow
  obtain ⟨ao0, cap0, rfl, hc0, hc1⟩ := hrow.form
  unfold maxLen at a2 hc1
  have hfp := fits_parts hf
  have HT := Lib.hid (topOf_len hf)
  have hpt : Hid ((VT.node 5 na sa la).put 16384 b = VT.puts 16384 la (b ++ num 5 ++ topOf 5 na sa la.length)) := by show _ = _; rw [VT.put_node, if_neg (by omega)]
  have HB1 : Hid (ByteRow (w.alloc (.cells #[.int .i64 5, .int .i64 na, .string sa, .slice ao la.length cap] 24)) N (.slice ao0 b.length cap0) b) := hrow.below ((Below.refl _ _).alloc (Nat.le_refl _) _)
  have hnk := Lib.hid (num_len (n := 5) (by omega) (by omega))
  have HNK : Hid (∀ W, Calls Tryd.prog 53 #[.int .i64 5] W (RowEnd W W.heap.size (num 5))) := fun W => wireNum_any 5 W (by omega) (by omega)
  have hvo : Hid ((Value.slice ao0 b.length cap0).ownBlock ≠ some w.heap.size) := fun e => by have := HR.out.lt e; omega
  clear hrow hr hrs'
  have hb2 : (b.length : Int) ≤ 16384 := by omega
  have hna := Lib.hid (num_len (n := na) (by omega) (by omega))
  have HNA : Hid (∀ W, Calls Tryd.prog 53 #[.int .i64 na] W (RowEnd W W.heap.size (num na))) := fun W => wireNum_any na W (by omega) (by omega)
  go_enter Tryd.func29, Tryd.ntmps29
  go_wp2_with
    (first
     | ((go_at_call 53; refine (HNK.out _).mono ?_; rintro e w5 ⟨v5, rfl, hr5, hb5⟩; have R5 := Lib.hid hr5; have B5 := Lib.hid hb5; clear hr5 hb5 HNK))
     | ((go_at_call 53; refine (HNA.out _).mono ?_; rintro e w7 ⟨v7, rfl, hr7, hb7⟩; have R7 := Lib.hid hr7; have B7 := Lib.hid hb7; clear hr7 hb7))
     | (at_builtin; (refine wpList_appb (w := w5) rfl _ _ rfl (v := .slice ao0 b.length cap0) (vx := v5) rfl (HB1.out.below B5.out) rfl R5.out (num_ne _) (by have := B5.out.size; simp at this; omega) (by have := hnk.out; omega) ?_; intro v6 w6 hr6 ho6; have R6 := Lib.hid hr6; have O6 : Hid (OwnStep _ _ w6 v6) := (OwnStep.made _ B5.out).trans ho6; clear hr6 ho6; clear HB1; obtain ⟨c60, c61, c62, c63⟩ := box_cells O6.out hvo.out))
     | (at_builtin; (refine wpList_appb (w := w7) rfl _ _ rfl (v := v6) (vx := v7) rfl (R6.out.below B7.out) rfl R7.out (num_ne _) (by have := B7.out.size; have := O6.out.size; simp at this; omega) (by have := hnk.out; have := hna.out; rw [List.length_append]; omega) ?_; intro v8 w8 hr8 ho8; have R8 := Lib.hid hr8; have O8 : Hid (OwnStep _ _ w8 v8) := O6.out.trans ((OwnStep.made _ B7.out).trans ho8); clear hr8 ho8; obtain ⟨c80, c81, c82, c83⟩ := box_cells O8.out hvo.out)))
  have e : topOf 5 na sa la.length = num na := by simp [topOf]
  have hbz : Hid ((b ++ num 5 ++ topOf 5 na sa la.length).length ≤ 100000) := by have := hnk.out; have := HT.out; show _ ≤ 100000; rw [List.length_append, List.length_append]; omega
  have RZ : Hid (ByteRow w8 N v8 (b ++ num 5 ++ topOf 5 na sa la.length)) := by show ByteRow _ _ _ _; rw [e]; exact R8.out
  clear e
  have hbox : Hid (w8.heap[w.heap.size]? = some (.cells #[.int .i64 5, .int .i64 na, .string sa, .slice ao la.length cap] 24 (0, 0))) := (O8.out.block (by simp) (fun e => by have := HR.out.lt e; omega)).trans (heap_alloc_new w _)
  have HL : Hid (PutLoop N w8 v8 16384 la (b ++ num 5 ++ topOf 5 na sa la.length) la.length v8 (.int .i64 0) w8) := ⟨0, (b ++ num 5 ++ topOf 5 na sa la.length), rfl, by omega, RZ.out, rfl, hbz.out, OwnStep.refl _ _⟩
  go_loopg [0, 57] la.length (fun k s0 s1 wr => PutLoop N w8 v8 16384 la (b ++ num 5 ++ topOf 5 na sa la.length) k s0 s1 wr)
  case atStart => exact HL.out
  case round =>
    clear HL
    obtain ⟨i, b', rfl, hik, hrow, hput, hbl, hown⟩ := hrel
    have HROW := Lib.hid hrow
    have HPUT := Lib.hid hput
    have HBL := Lib.hid hbl
    have HOWN := Lib.hid hown
    have OW : Hid (OwnStep (w.alloc (.cells #[.int .i64 5, .int .i64 na, .string sa, .slice ao la.length cap] 24)) (.slice ao0 b.length cap0) wr u0) := O8.out.trans hown
    clear hrow hput hbl hown
    by_cases hlt : i < la.length
    · obtain ⟨tk, htk⟩ : ∃ u, la[i]? = some u := ⟨_, List.getElem?_eq_getElem hlt⟩
      obtain ⟨bb, oo, _, _, _, _, rfl, hbb, _⟩ := a7.get htk
      obtain ⟨_, aok, capk, p0, p1, p2, p3, hvk⟩ := a7.cells htk
      unfold vval at hvk
      rw [Nat.zero_add] at p0 p1 p2 p3
      have hbb' := hP _ hbb
      have hblk : wr.heap[bb]? = w.heap[bb]? := (OW.out.block (by simp; omega) hbb'.2).trans (heap_alloc_old _ _ hbb'.1)
      have cc : ∀ j, wr.cell? ⟨bb, j, none⟩ = w.cell? ⟨bb, j, none⟩ := fun j => by simp [World.cell?, hblk]
      replace p0 := (cc _).trans p0
      replace p1 := (cc _).trans p1
      replace p2 := (cc _).trans p2
      replace p3 := (cc _).trans p3
      have hvk' : Hid (ValIs wr P tk (.agg #[.int .i64 tk.kind, .int .i64 tk.num, .string tk.text, .slice aok tk.kids.length capk])) := (hvk.below ((Below.refl _ _).alloc (Nat.le_refl _) _) (fun b hb => (hP b hb).1)).own OW.out (fun b hb => ⟨by have := (hP b hb).1; simp; omega, (hP b hb).2⟩)
      have HPB : Hid (∀ x, P x → x < wr.heap.size ∧ u0.ownBlock ≠ some x) := fun x hx => ⟨by have := (hP x hx).1; have := OW.out.size; simp at this; omega, OW.out.apart (by have := (hP x hx).1; simp; omega) (hP x hx).2⟩
      have hkid : Hid (tk.sz ≤ k) := by
        have h5 : tk.sz < (VT.node 5 na sa la).sz := VT.sz_kid (t := VT.node 5 na sa la) htk
        show tk.sz ≤ k; omega
      have hrk := Lib.hid (VT.rights_get hrs.out htk)
      have hdrop := Lib.hid (VT.drop_kid htk)
      have g1' : (i : Int) < (la.length : Int) := by omega
      have hi0 : (0 : Int) ≤ (i : Int) := by omega
      have hNr : Hid (N ≤ wr.heap.size) := by have := OW.out.size; simp at this; show N ≤ wr.heap.size; omega
      clear hvk htk cc hblk
      go_wp2_with ((go_at_call 29; refine (ih tk _ _ P (d + 1) N u0 b' hkid.out hrk.out (hvk'.out.below ((Below.refl _ _).alloc (Nat.le_refl _) _) (fun b hb => (HPB.out b hb).1)) (fun x hx => ⟨by have := (HPB.out x hx).1; simp; omega, (HPB.out x hx).2⟩) (HROW.out.below ((Below.refl _ _).alloc (Nat.le_refl _) _)) (by have := hNr.out; simp; omega) HBL.out).mono ?_; rintro e w7 ⟨v7, rfl, hr7, ho7⟩; have HR7 := Lib.hid hr7; have HO7 := Lib.hid ho7; clear hr7 ho7))
      go_roundg (gk - 1)
      case measure => omega
      case rel => exact ⟨i + 1, _, by go_num, by omega, HR7.out, by rw [HPUT.out, hdrop.out, VT.puts_cons], by have := VT.put_len (L := 16384) tk b' (d + 1) hrk.out; have := HBL.out; omega, HOWN.out.trans ((OwnStep.made u0 ((Below.refl _ _).alloc (Nat.le_refl _) _)).trans HO7.out)⟩
    · obtain rfl : i = la.length := by omega
      go_wp2
      go_ret
      refine PutEnd.boxed (o := .cells #[.int .i64 5, .int .i64 na, .string sa, .slice ao la.length cap] 24) ⟨_, rfl, ?_, OW.out⟩ (fun k hk => HR.out.lt hk)
      rw [hpt.out, HPUT.out, List.drop_length, VT.puts_nil]
      exact HROW.out

include ih in
set_option maxRecDepth 100000 in
set_option maxHeartbeats 3200000 in
theorem put_4 (na : Int) (sa : ByteArray) (la : List VT) (w : World) (P : Nat → Prop) (d : Int) (N : Nat) (v : Value) (b : List UInt8) (ao : Option Addr) (cap : Nat) (hk : (VT.node 4 na sa la).sz ≤ k + 1) (hr : (VT.node 4 na sa la).right d = true)
    (a1 : la.length ≤ cap) (a2 : cap ≤ maxLen) (a7 : KidsAt w P la ao 0) (hP : ∀ x, P x → x < w.heap.size ∧ v.ownBlock ≠ some x) (hrow : ByteRow w N v b) (hN : N ≤ w.heap.size) (hb : b.length ≤ 16384) :
    Calls Tryd.prog 29 #[v, .agg #[.int .i64 4, .int .i64 na, .string sa, .slice ao la.length cap]] w (PutEnd w N v ((VT.node 4 na sa la).put 16384 b)) := by
  obtain ⟨hf, hrs', hd⟩ := VT.right_parts hr
  have hrs := Lib.hid hrs'
  have HR := Lib.hid hrow
  obtain ⟨ao0, cap0, rfl, hc0, hc1⟩ := hrow.form
  unfold maxLen at a2 hc1
  have hfp := fits_parts hf
  have HT := Lib.hid (topOf_len hf)
  have hpt : Hid ((VT.node 4 na sa la).put 16384 b = VT.puts 16384 la (b ++ num 4 ++ topOf 4 na sa la.length)) := by show _ = _; rw [VT.put_node, if_neg (by omega)]
  have HB1 : Hid (ByteRow (w.alloc (.cells #[.int .i64 4, .int .i64 na, .string sa, .slice ao la.length cap] 24)) N (.slice ao0 b.length cap0) b) := hrow.below ((Below.refl _ _).alloc (Nat.le_refl _) _)
  have hnk := Lib.hid (num_len (n := 4) (by omega) (by omega))
  have HNK : Hid (∀ W, Calls Tryd.prog 53 #[.int .i64 4] W (RowEnd W W.heap.size (num 4))) := fun W => wireNum_any 4 W (by omega) (by omega)
  have hvo : Hid ((Value.slice ao0 b.length cap0).ownBlock ≠ some w.heap.size) := fun e => by have := HR.out.lt e; omega
  clear hrow hr hrs'
  have hb2 : (b.length : Int) ≤ 16384 := by omega
  have hna := Lib.hid (num_len (n := (la.length : Int)) (by omega) (by omega))
  have HNA : Hid (∀ W, Calls Tryd.prog 53 #[.int .i64 (la.length : Int)] W (RowEnd W W.heap.size (num (la.length : Int)))) := fun W => wireNum_any (la.length : Int) W (by omega) (by omega)
  go_enter Tryd.func29, Tryd.ntmps29
  go_wp2_with
    (first
     | ((go_at_call 53; refine (HNK.out _).mono ?_; rintro e w5 ⟨v5, rfl, hr5, hb5⟩; have R5 := Lib.hid hr5; have B5 := Lib.hid hb5; clear hr5 hb5 HNK))
     | ((go_at_call 53; refine (HNA.out _).mono ?_; rintro e w7 ⟨v7, rfl, hr7, hb7⟩; have R7 := Lib.hid hr7; have B7 := Lib.hid hb7; clear hr7 hb7))
     | (at_builtin; (refine wpList_appb (w := w5) rfl _ _ rfl (v := .slice ao0 b.length cap0) (vx := v5) rfl (HB1.out.below B5.out) rfl R5.out (num_ne _) (by have := B5.out.size; simp at this; omega) (by have := hnk.out; omega) ?_; intro v6 w6 hr6 ho6; have R6 := Lib.hid hr6; have O6 : Hid (OwnStep _ _ w6 v6) := (OwnStep.made _ B5.out).trans ho6; clear hr6 ho6; clear HB1; obtain ⟨c60, c61, c62, c63⟩ := box_cells O6.out hvo.out))
     | (at_builtin; (refine wpList_appb (w := w7) rfl _ _ rfl (v := v6) (vx := v7) rfl (R6.out.below B7.out) rfl R7.out (num_ne _) (by have := B7.out.size; have := O6.out.size; simp at this; omega) (by have := hnk.out; have := hna.out; rw [List.length_append]; omega) ?_; intro v8 w8 hr8 ho8; have R8 := Lib.hid hr8; have O8 : Hid (OwnStep _ _ w8 v8) := O6.out.trans ((OwnStep.made _ B7.out).trans ho8); clear hr8 ho8; obtain ⟨c80, c81, c82, c83⟩ := box_cells O8.out hvo.out)))
  have e : topOf 4 na sa la.length = num (la.length : Int) := by simp [topOf]
  have hbz : Hid ((b ++ num 4 ++ topOf 4 na sa la.length).length ≤ 100000) := by have := hnk.out; have := HT.out; show _ ≤ 100000; rw [List.length_append, List.length_append]; omega
  have RZ : Hid (ByteRow w8 N v8 (b ++ num 4 ++ topOf 4 na sa la.length)) := by show ByteRow _ _ _ _; rw [e]; exact R8.out
  clear e
  have hbox : Hid (w8.heap[w.heap.size]? = some (.cells #[.int .i64 4, .int .i64 na, .string sa, .slice ao la.length cap] 24 (0, 0))) := (O8.out.block (by simp) (fun e => by have := HR.out.lt e; omega)).trans (heap_alloc_new w _)
  have HL : Hid (PutLoop N w8 v8 16384 la (b ++ num 4 ++ topOf 4 na sa la.length) la.length v8 (.int .i64 0) w8) := ⟨0, (b ++ num 4 ++ topOf 4 na sa la.length), rfl, by omega, RZ.out, rfl, hbz.out, OwnStep.refl _ _⟩
  go_loopg [0, 57] la.length (fun k s0 s1 wr => PutLoop N w8 v8 16384 la (b ++ num 4 ++ topOf 4 na sa la.length) k s0 s1 wr)
  case atStart => exact HL.out
  case round =>
    clear HL
    obtain ⟨i, b', rfl, hik, hrow, hput, hbl, hown⟩ := hrel
    have HROW := Lib.hid hrow
    have HPUT := Lib.hid hput
    have HBL := Lib.hid hbl
    have HOWN := Lib.hid hown
    have OW : Hid (OwnStep (w.alloc (.cells #[.int .i64 4, .int .i64 na, .string sa, .slice ao la.length cap] 24)) (.slice ao0 b.length cap0) wr u0) := O8.out.trans hown
    clear hrow hput hbl hown
    by_cases hlt : i < la.length
    · obtain ⟨tk, htk⟩ : ∃ u, la[i]? = some u := ⟨_, List.getElem?_eq_getElem hlt⟩
      obtain ⟨bb, oo, _, _, _, _, rfl, hbb, _⟩ := a7.get htk
      obtain ⟨_, aok, capk, p0, p1, p2, p3, hvk⟩ := a7.cells htk
      unfold vval at hvk
      rw [Nat.zero_add] at p0 p1 p2 p3
      have hbb' := hP _ hbb
      have hblk : wr.heap[bb]? = w.heap[bb]? := (OW.out.block (by simp; omega) hbb'.2).trans (heap_alloc_old _ _ hbb'.1)
      have cc : ∀ j, wr.cell? ⟨bb, j, none⟩ = w.cell? ⟨bb, j, none⟩ := fun j => by simp [World.cell?, hblk]
      replace p0 := (cc _).trans p0
      replace p1 := (cc _).trans p1
      replace p2 := (cc _).trans p2
      replace p3 := (cc _).trans p3
      have hvk' : Hid (ValIs wr P tk (.agg #[.int .i64 tk.kind, .int .i64 tk.num, .string tk.text, .slice aok tk.kids.length capk])) := (hvk.below ((Below.refl _ _).alloc (Nat.le_refl _) _) (fun b hb => (hP b hb).1)).own OW.out (fun b hb => ⟨by have := (hP b hb).1; simp; omega, (hP b hb).2⟩)
      have HPB : Hid (∀ x, P x → x < wr.heap.size ∧ u0.ownBlock ≠ some x) := fun x hx => ⟨by have := (hP x hx).1; have := OW.out.size; simp at this; omega, OW.out.apart (by have := (hP x hx).1; simp; omega) (hP x hx).2⟩
      have hkid : Hid (tk.sz ≤ k) := by
        have h5 : tk.sz < (VT.node 4 na sa la).sz := VT.sz_kid (t := VT.node 4 na sa la) htk
        show tk.sz ≤ k; omega
      have hrk := Lib.hid (VT.rights_get hrs.out htk)
      have hdrop := Lib.hid (VT.drop_kid htk)
      have g1' : (i : Int) < (la.length : Int) := by omega
      have hi0 : (0 : Int) ≤ (i : Int) := by omega
      have hNr : Hid (N ≤ wr.heap.size) := by have := OW.out.size; simp at this; show N ≤ wr.heap.size; omega
      clear hvk htk cc hblk
      go_wp2_with ((go_at_call 29; refine (ih tk _ _ P (d + 1) N u0 b' hkid.out hrk.out (hvk'.out.below ((Below.refl _ _).alloc (Nat.le_refl _) _) (fun b hb => (HPB.out b hb).1)) (fun x hx => ⟨by have := (HPB.out x hx).1; simp; omega, (HPB.out x hx).2⟩) (HROW.out.below ((Below.refl _ _).alloc (Nat.le_refl _) _)) (by have := hNr.out; simp; omega) HBL.out).mono ?_; rintro e w7 ⟨v7, rfl, hr7, ho7⟩; have HR7 := Lib.hid hr7; have HO7 := Lib.hid ho7; clear hr7 ho7))
      go_roundg (gk - 1)
      case measure => omega
      case rel => exact ⟨i + 1, _, by go_num, by omega, HR7.out, by rw [HPUT.out, hdrop.out, VT.puts_cons], by have := VT.put_len (L := 16384) tk b' (d + 1) hrk.out; have := HBL.out; omega, HOWN.out.trans ((OwnStep.made u0 ((Below.refl _ _).alloc (Nat.le_refl _) _)).trans HO7.out)⟩
    · obtain rfl : i = la.length := by omega
      go_wp2
      go_ret
      refine PutEnd.boxed (o := .cells #[.int .i64 4, .int .i64 na, .string sa, .slice ao la.length cap] 24) ⟨_, rfl, ?_, OW.out⟩ (fun k hk => HR.out.lt hk)
      rw [hpt.out, HPUT.out, List.drop_length, VT.puts_nil]
      exact HROW.out

include ih in
set_option maxRecDepth 100000 in
set_option maxHeartbeats 3200000 in
theorem put_1 (na : Int) (sa : ByteArray) (la : List VT) (w : World) (P : Nat → Prop) (d : Int) (N : Nat) (v : Value) (b : List UInt8) (ao : Option Addr) (cap : Nat) (hk : (VT.node 1 na sa la).sz ≤ k + 1) (hr : (VT.node 1 na sa la).right d = true)
    (a1 : la.length ≤ cap) (a2 : cap ≤ maxLen) (a7 : KidsAt w P la ao 0) (hP : ∀ x, P x → x < w.heap.size ∧ v.ownBlock ≠ some x) (hrow : ByteRow w N v b) (hN : N ≤ w.heap.size) (hb : b.length ≤ 16384) :
    Calls Tryd.prog 29 #[v, .agg #[.int .i64 1, .int .i64 na, .string sa, .slice ao la.length cap]] w (PutEnd w N v ((VT.node 1 na sa la).put 16384 b)) := by
  obtain ⟨hf, hrs', hd⟩ := VT.right_parts hr
  have hrs := Lib.hid hrs'
  have HR := Lib.hid hrow
  obtain ⟨ao0, cap0, rfl, hc0, hc1⟩ := hrow.form
  unfold maxLen at a2 hc1
  have hfp := fits_parts hf
  have HT := Lib.hid (topOf_len hf)
  have hpt : Hid ((VT.node 1 na sa la).put 16384 b = VT.puts 16384 la (b ++ num 1 ++ topOf 1 na sa la.length)) := by show _ = _; rw [VT.put_node, if_neg (by omega)]
  have HB1 : Hid (ByteRow (w.alloc (.cells #[.int .i64 1, .int .i64 na, .string sa, .slice ao la.length cap] 24)) N (.slice ao0 b.length cap0) b) := hrow.below ((Below.refl _ _).alloc (Nat.le_refl _) _)
  have hnk := Lib.hid (num_len (n := 1) (by omega) (by omega))
  have HNK : Hid (∀ W, Calls Tryd.prog 53 #[.int .i64 1] W (RowEnd W W.heap.size (num 1))) := fun W => wireNum_any 1 W (by omega) (by omega)
  have hvo : Hid ((Value.slice ao0 b.length cap0).ownBlock ≠ some w.heap.size) := fun e => by have := HR.out.lt e; omega
  clear hrow hr hrs'
  have hb2 : (b.length : Int) ≤ 16384 := by omega
  have hna := Lib.hid (str_len (s := sa.data.toList) (by simp; omega))
  have hsl : sa.data.toList.length = sa.size := by simp
  rw [hsl] at hna
  have HNA : Hid (∀ W, Calls Tryd.prog 54 #[.string sa] W (RowEnd W W.heap.size (str sa.data.toList))) := fun W => wireStr_any sa W (by omega)
  clear hsl
  go_enter Tryd.func29, Tryd.ntmps29
  go_wp2_with
    (first
     | ((go_at_call 53; refine (HNK.out _).mono ?_; rintro e w5 ⟨v5, rfl, hr5, hb5⟩; have R5 := Lib.hid hr5; have B5 := Lib.hid hb5; clear hr5 hb5 HNK))
     | ((go_at_call 54; refine (HNA.out _).mono ?_; rintro e w7 ⟨v7, rfl, hr7, hb7⟩; have R7 := Lib.hid hr7; have B7 := Lib.hid hb7; clear hr7 hb7))
     | (at_builtin; (refine wpList_appb (w := w5) rfl _ _ rfl (v := .slice ao0 b.length cap0) (vx := v5) rfl (HB1.out.below B5.out) rfl R5.out (num_ne _) (by have := B5.out.size; simp at this; omega) (by have := hnk.out; omega) ?_; intro v6 w6 hr6 ho6; have R6 := Lib.hid hr6; have O6 : Hid (OwnStep _ _ w6 v6) := (OwnStep.made _ B5.out).trans ho6; clear hr6 ho6; clear HB1; obtain ⟨c60, c61, c62, c63⟩ := box_cells O6.out hvo.out))
     | (at_builtin; (refine wpList_appb (w := w7) rfl _ _ rfl (v := v6) (vx := v7) rfl (R6.out.below B7.out) rfl R7.out (str_ne _) (by have := B7.out.size; have := O6.out.size; simp at this; omega) (by have := hnk.out; have := hna.out; rw [List.length_append]; omega) ?_; intro v8 w8 hr8 ho8; have R8 := Lib.hid hr8; have O8 : Hid (OwnStep _ _ w8 v8) := O6.out.trans ((OwnStep.made _ B7.out).trans ho8); clear hr8 ho8; obtain ⟨c80, c81, c82, c83⟩ := box_cells O8.out hvo.out)))
  have e : topOf 1 na sa la.length = str sa.data.toList := by simp [topOf]
  have hbz : Hid ((b ++ num 1 ++ topOf 1 na sa la.length).length ≤ 100000) := by have := hnk.out; have := HT.out; show _ ≤ 100000; rw [List.length_append, List.length_append]; omega
  have RZ : Hid (ByteRow w8 N v8 (b ++ num 1 ++ topOf 1 na sa la.length)) := by show ByteRow _ _ _ _; rw [e]; exact R8.out
  clear e
  have hbox : Hid (w8.heap[w.heap.size]? = some (.cells #[.int .i64 1, .int .i64 na, .string sa, .slice ao la.length cap] 24 (0, 0))) := (O8.out.block (by simp) (fun e => by have := HR.out.lt e; omega)).trans (heap_alloc_new w _)
  have HL : Hid (PutLoop N w8 v8 16384 la (b ++ num 1 ++ topOf 1 na sa la.length) la.length v8 (.int .i64 0) w8) := ⟨0, (b ++ num 1 ++ topOf 1 na sa la.length), rfl, by omega, RZ.out, rfl, hbz.out, OwnStep.refl _ _⟩
  go_loopg [0, 57] la.length (fun k s0 s1 wr => PutLoop N w8 v8 16384 la (b ++ num 1 ++ topOf 1 na sa la.length) k s0 s1 wr)
  case atStart => exact HL.out
  case round =>
    clear HL
    obtain ⟨i, b', rfl, hik, hrow, hput, hbl, hown⟩ := hrel
    have HROW := Lib.hid hrow
    have HPUT := Lib.hid hput
    have HBL := Lib.hid hbl
    have HOWN := Lib.hid hown
    have OW : Hid (OwnStep (w.alloc (.cells #[.int .i64 1, .int .i64 na, .string sa, .slice ao la.length cap] 24)) (.slice ao0 b.length cap0) wr u0) := O8.out.trans hown
    clear hrow hput hbl hown
    by_cases hlt : i < la.length
    · obtain ⟨tk, htk⟩ : ∃ u, la[i]? = some u := ⟨_, List.getElem?_eq_getElem hlt⟩
      obtain ⟨bb, oo, _, _, _, _, rfl, hbb, _⟩ := a7.get htk
      obtain ⟨_, aok, capk, p0, p1, p2, p3, hvk⟩ := a7.cells htk
      unfold vval at hvk
      rw [Nat.zero_add] at p0 p1 p2 p3
      have hbb' := hP _ hbb
      have hblk : wr.heap[bb]? = w.heap[bb]? := (OW.out.block (by simp; omega) hbb'.2).trans (heap_alloc_old _ _ hbb'.1)
      have cc : ∀ j, wr.cell? ⟨bb, j, none⟩ = w.cell? ⟨bb, j, none⟩ := fun j => by simp [World.cell?, hblk]
      replace p0 := (cc _).trans p0
      replace p1 := (cc _).trans p1
      replace p2 := (cc _).trans p2
      replace p3 := (cc _).trans p3
      have hvk' : Hid (ValIs wr P tk (.agg #[.int .i64 tk.kind, .int .i64 tk.num, .string tk.text, .slice aok tk.kids.length capk])) := (hvk.below ((Below.refl _ _).alloc (Nat.le_refl _) _) (fun b hb => (hP b hb).1)).own OW.out (fun b hb => ⟨by have := (hP b hb).1; simp; omega, (hP b hb).2⟩)
      have HPB : Hid (∀ x, P x → x < wr.heap.size ∧ u0.ownBlock ≠ some x) := fun x hx => ⟨by have := (hP x hx).1; have := OW.out.size; simp at this; omega, OW.out.apart (by have := (hP x hx).1; simp; omega) (hP x hx).2⟩
      have hkid : Hid (tk.sz ≤ k) := by
        have h5 : tk.sz < (VT.node 1 na sa la).sz := VT.sz_kid (t := VT.node 1 na sa la) htk
        show tk.sz ≤ k; omega
      have hrk := Lib.hid (VT.rights_get hrs.out htk)
      have hdrop := Lib.hid (VT.drop_kid htk)
      have g1' : (i : Int) < (la.length : Int) := by omega
      have hi0 : (0 : Int) ≤ (i : Int) := by omega
      have hNr : Hid (N ≤ wr.heap.size) := by have := OW.out.size; simp at this; show N ≤ wr.heap.size; omega
      clear hvk htk cc hblk
      go_wp2_with ((go_at_call 29; refine (ih tk _ _ P (d + 1) N u0 b' hkid.out hrk.out (hvk'.out.below ((Below.refl _ _).alloc (Nat.le_refl _) _) (fun b hb => (HPB.out b hb).1)) (fun x hx => ⟨by have := (HPB.out x hx).1; simp; omega, (HPB.out x hx).2⟩) (HROW.out.below ((Below.refl _ _).alloc (Nat.le_refl _) _)) (by have := hNr.out; simp; omega) HBL.out).mono ?_; rintro e w7 ⟨v7, rfl, hr7, ho7⟩; have HR7 := Lib.hid hr7; have HO7 := Lib.hid ho7; clear hr7 ho7))
      go_roundg (gk - 1)
      case measure => omega
      case rel => exact ⟨i + 1, _, by go_num, by omega, HR7.out, by rw [HPUT.out, hdrop.out, VT.puts_cons], by have := VT.put_len (L := 16384) tk b' (d + 1) hrk.out; have := HBL.out; omega, HOWN.out.trans ((OwnStep.made u0 ((Below.refl _ _).alloc (Nat.le_refl _) _)).trans HO7.out)⟩
    · obtain rfl : i = la.length := by omega
      go_wp2
      go_ret
      refine PutEnd.boxed (o := .cells #[.int .i64 1, .int .i64 na, .string sa, .slice ao la.length cap] 24) ⟨_, rfl, ?_, OW.out⟩ (fun k hk => HR.out.lt hk)
      rw [hpt.out, HPUT.out, List.drop_length, VT.puts_nil]
      exact HROW.out

include ih in
set_option maxRecDepth 100000 in
set_option maxHeartbeats 3200000 in
theorem put_2 (na : Int) (sa : ByteArray) (la : List VT) (w : World) (P : Nat → Prop) (d : Int) (N : Nat) (v : Value) (b : List UInt8) (ao : Option Addr) (cap : Nat) (hk : (VT.node 2 na sa la).sz ≤ k + 1) (hr : (VT.node 2 na sa la).right d = true)
    (a1 : la.length ≤ cap) (a2 : cap ≤ maxLen) (a7 : KidsAt w P la ao 0) (hP : ∀ x, P x → x < w.heap.size ∧ v.ownBlock ≠ some x) (hrow : ByteRow w N v b) (hN : N ≤ w.heap.size) (hb : b.length ≤ 16384) :
    Calls Tryd.prog 29 #[v, .agg #[.int .i64 2, .int .i64 na, .string sa, .slice ao la.length cap]] w (PutEnd w N v ((VT.node 2 na sa la).put 16384 b)) := by
  obtain ⟨hf, hrs', hd⟩ := VT.right_parts hr
  have hrs := Lib.hid hrs'
  have HR := Lib.hid hrow
  obtain ⟨ao0, cap0, rfl, hc0, hc1⟩ := hrow.form
  unfold maxLen at a2 hc1
  have hfp := fits_parts hf
  have HT := Lib.hid (topOf_len hf)
  have hpt : Hid ((VT.node 2 na sa la).put 16384 b = VT.puts 16384 la (b ++ num 2 ++ topOf 2 na sa la.length)) := by show _ = _; rw [VT.put_node, if_neg (by omega)]
  have HB1 : Hid (ByteRow (w.alloc (.cells #[.int .i64 2, .int .i64 na, .string sa, .slice ao la.length cap] 24)) N (.slice ao0 b.length cap0) b) := hrow.below ((Below.refl _ _).alloc (Nat.le_refl _) _)
  have hnk := Lib.hid (num_len (n := 2) (by omega) (by omega))
  have HNK : Hid (∀ W, Calls Tryd.prog 53 #[.int .i64 2] W (RowEnd W W.heap.size (num 2))) := fun W => wireNum_any 2 W (by omega) (by omega)
  have hvo : Hid ((Value.slice ao0 b.length cap0).ownBlock ≠ some w.heap.size) := fun e => by have := HR.out.lt e; omega
  clear hrow hr hrs'
  have hb2 : (b.length : Int) ≤ 16384 := by omega
  have hna := Lib.hid (str_len (s := sa.data.toList) (by simp; omega))
  have hsl : sa.data.toList.length = sa.size := by simp
  rw [hsl] at hna
  have HNA : Hid (∀ W, Calls Tryd.prog 54 #[.string sa] W (RowEnd W W.heap.size (str sa.data.toList))) := fun W => wireStr_any sa W (by omega)
  clear hsl
  go_enter Tryd.func29, Tryd.ntmps29
  go_wp2_with
    (first
     | ((go_at_call 53; refine (HNK.out _).mono ?_; rintro e w5 ⟨v5, rfl, hr5, hb5⟩; have R5 := Lib.hid hr5; have B5 := Lib.hid hb5; clear hr5 hb5 HNK))
     | ((go_at_call 54; refine (HNA.out _).mono ?_; rintro e w7 ⟨v7, rfl, hr7, hb7⟩; have R7 := Lib.hid hr7; have B7 := Lib.hid hb7; clear hr7 hb7))
     | (at_builtin; (refine wpList_appb (w := w5) rfl _ _ rfl (v := .slice ao0 b.length cap0) (vx := v5) rfl (HB1.out.below B5.out) rfl R5.out (num_ne _) (by have := B5.out.size; simp at this; omega) (by have := hnk.out; omega) ?_; intro v6 w6 hr6 ho6; have R6 := Lib.hid hr6; have O6 : Hid (OwnStep _ _ w6 v6) := (OwnStep.made _ B5.out).trans ho6; clear hr6 ho6; clear HB1; obtain ⟨c60, c61, c62, c63⟩ := box_cells O6.out hvo.out))
     | (at_builtin; (refine wpList_appb (w := w7) rfl _ _ rfl (v := v6) (vx := v7) rfl (R6.out.below B7.out) rfl R7.out (str_ne _) (by have := B7.out.size; have := O6.out.size; simp at this; omega) (by have := hnk.out; have := hna.out; rw [List.length_append]; omega) ?_; intro v8 w8 hr8 ho8; have R8 := Lib.hid hr8; have O8 : Hid (OwnStep _ _ w8 v8) := O6.out.trans ((OwnStep.made _ B7.out).trans ho8); clear hr8 ho8; obtain ⟨c80, c81, c82, c83⟩ := box_cells O8.out hvo.out)))
  have e : topOf 2 na sa la.length = str sa.data.toList := by simp [topOf]
  have hbz : Hid ((b ++ num 2 ++ topOf 2 na sa la.length).length ≤ 100000) := by have := hnk.out; have := HT.out; show _ ≤ 100000; rw [List.length_append, List.length_append]; omega
  have RZ : Hid (ByteRow w8 N v8 (b ++ num 2 ++ topOf 2 na sa la.length)) := by show ByteRow _ _ _ _; rw [e]; exact R8.out
  clear e
  have hbox : Hid (w8.heap[w.heap.size]? = some (.cells #[.int .i64 2, .int .i64 na, .string sa, .slice ao la.length cap] 24 (0, 0))) := (O8.out.block (by simp) (fun e => by have := HR.out.lt e; omega)).trans (heap_alloc_new w _)
  have HL : Hid (PutLoop N w8 v8 16384 la (b ++ num 2 ++ topOf 2 na sa la.length) la.length v8 (.int .i64 0) w8) := ⟨0, (b ++ num 2 ++ topOf 2 na sa la.length), rfl, by omega, RZ.out, rfl, hbz.out, OwnStep.refl _ _⟩
  go_loopg [0, 57] la.length (fun k s0 s1 wr => PutLoop N w8 v8 16384 la (b ++ num 2 ++ topOf 2 na sa la.length) k s0 s1 wr)
  case atStart => exact HL.out
  case round =>
    clear HL
    obtain ⟨i, b', rfl, hik, hrow, hput, hbl, hown⟩ := hrel
    have HROW := Lib.hid hrow
    have HPUT := Lib.hid hput
    have HBL := Lib.hid hbl
    have HOWN := Lib.hid hown
    have OW : Hid (OwnStep (w.alloc (.cells #[.int .i64 2, .int .i64 na, .string sa, .slice ao la.length cap] 24)) (.slice ao0 b.length cap0) wr u0) := O8.out.trans hown
    clear hrow hput hbl hown
    by_cases hlt : i < la.length
    · obtain ⟨tk, htk⟩ : ∃ u, la[i]? = some u := ⟨_, List.getElem?_eq_getElem hlt⟩
      obtain ⟨bb, oo, _, _, _, _, rfl, hbb, _⟩ := a7.get htk
      obtain ⟨_, aok, capk, p0, p1, p2, p3, hvk⟩ := a7.cells htk
      unfold vval at hvk
      rw [Nat.zero_add] at p0 p1 p2 p3
      have hbb' := hP _ hbb
      have hblk : wr.heap[bb]? = w.heap[bb]? := (OW.out.block (by simp; omega) hbb'.2).trans (heap_alloc_old _ _ hbb'.1)
      have cc : ∀ j, wr.cell? ⟨bb, j, none⟩ = w.cell? ⟨bb, j, none⟩ := fun j => by simp [World.cell?, hblk]
      replace p0 := (cc _).trans p0
      replace p1 := (cc _).trans p1
      replace p2 := (cc _).trans p2
      replace p3 := (cc _).trans p3
      have hvk' : Hid (ValIs wr P tk (.agg #[.int .i64 tk.kind, .int .i64 tk.num, .string tk.text, .slice aok tk.kids.length capk])) := (hvk.below ((Below.refl _ _).alloc (Nat.le_refl _) _) (fun b hb => (hP b hb).1)).own OW.out (fun b hb => ⟨by have := (hP b hb).1; simp; omega, (hP b hb).2⟩)
      have HPB : Hid (∀ x, P x → x < wr.heap.size ∧ u0.ownBlock ≠ some x) := fun x hx => ⟨by have := (hP x hx).1; have := OW.out.size; simp at this; omega, OW.out.apart (by have := (hP x hx).1; simp; omega) (hP x hx).2⟩
      have hkid : Hid (tk.sz ≤ k) := by
        have h5 : tk.sz < (VT.node 2 na sa la).sz := VT.sz_kid (t := VT.node 2 na sa la) htk
        show tk.sz ≤ k; omega
      have hrk := Lib.hid (VT.rights_get hrs.out htk)
      have hdrop := Lib.hid (VT.drop_kid htk)
      have g1' : (i : Int) < (la.length : Int) := by omega
      have hi0 : (0 : Int) ≤ (i : Int) := by omega
      have hNr : Hid (N ≤ wr.heap.size) := by have := OW.out.size; simp at this; show N ≤ wr.heap.size; omega
      clear hvk htk cc hblk
      go_wp2_with ((go_at_call 29; refine (ih tk _ _ P (d + 1) N u0 b' hkid.out hrk.out (hvk'.out.below ((Below.refl _ _).alloc (Nat.le_refl _) _) (fun b hb => (HPB.out b hb).1)) (fun x hx => ⟨by have := (HPB.out x hx).1; simp; omega, (HPB.out x hx).2⟩) (HROW.out.below ((Below.refl _ _).alloc (Nat.le_refl _) _)) (by have := hNr.out; simp; omega) HBL.out).mono ?_; rintro e w7 ⟨v7, rfl, hr7, ho7⟩; have HR7 := Lib.hid hr7; have HO7 := Lib.hid ho7; clear hr7 ho7))
      go_roundg (gk - 1)
      case measure => omega
      case rel => exact ⟨i + 1, _, by go_num, by omega, HR7.out, by rw [HPUT.out, hdrop.out, VT.puts_cons], by have := VT.put_len (L := 16384) tk b' (d + 1) hrk.out; have := HBL.out; omega, HOWN.out.trans ((OwnStep.made u0 ((Below.refl _ _).alloc (Nat.le_refl _) _)).trans HO7.out)⟩
    · obtain rfl : i = la.length := by omega
      go_wp2
      go_ret
      refine PutEnd.boxed (o := .cells #[.int .i64 2, .int .i64 na, .string sa, .slice ao la.length cap] 24) ⟨_, rfl, ?_, OW.out⟩ (fun k hk => HR.out.lt hk)
      rw [hpt.out, HPUT.out, List.drop_length, VT.puts_nil]
      exact HROW.out
end
end Go.Proofs.YtofmbpmmgpbdbaaDoor
