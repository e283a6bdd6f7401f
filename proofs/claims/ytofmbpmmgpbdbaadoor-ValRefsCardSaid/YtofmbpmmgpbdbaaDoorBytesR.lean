/- The reference's bytes: a value's bytes behind others. -/
import Derived.Test.YtofmbpmmgpbdbaaDoorOwn2
import Derived.Test.YtofmbpmmgpbdbaaDoorPut
import Derived.Deep.RegionLaw
namespace Go.Proofs.YtofmbpmmgpbdbaaDoor
open Go.RowKit Go.Maps Wr
set_option linter.unusedVariables false

theorem bytes_data (l : List UInt8) : (bytes l).data.toList = l := by simp [bytes]
theorem num_pos (n : Int) : 0 < (bytes (num n)).size := by
  rw [bytes_size]; have := num_ne n; cases h : num n; exact absurd h this; simp
set_option maxRecDepth 100000 in
theorem refStr_any (s : ByteArray) (w : World) (hs : s.size ≤ 1000000000) : Calls Tryd.prog 49 #[.string s] w fun e w' => e = .returned (.string (bytes (str s.data.toList))) ∧ Below w.heap.size w w' := by
  have hn := Lib.hid (refNum_any (s.size : Int) w (by omega) (by omega))
  have hnl := Lib.hid (num_len (n := (s.size : Int)) (by omega) (by omega))
  have hno : ¬ 9223372036854775807 < (bytes (num (s.size : Int))).size + s.size := by rw [bytes_size]; have := hnl.out; omega
  have hs2 : (s.size : Int) ≤ 1000000000 := by omega
  go_enter Tryd.func49, Tryd.ntmps49
  go_wp2_with ((go_at_call 48; refine hn.out.mono ?_; rintro e w5 ⟨rfl, hb5⟩))
  go_ret
  refine ⟨ret_str ?_, hb5⟩
  apply Go.WideShapes.bytes_inj
  simp [bytes, str]

section
variable (k : Nat) (ih : ∀ (t : VT) (vt : Value) (w : World) (P : Nat → Prop) (d : Int) (N : Nat) (v : Value) (b : List UInt8), t.sz ≤ k → t.right d = true → ValIs w P t vt → (∀ x, P x → x < w.heap.size ∧ v.ownBlock ≠ some x) → ByteRow w N v b → N ≤ w.heap.size → b.length ≤ 100000 →
    Calls Tryd.prog 27 #[v, vt] w (PutEnd w N v (t.put 32768 b)))
include ih in
set_option maxRecDepth 100000 in
set_option maxHeartbeats 3200000 in
theorem bytes_6 (na : Int) (sa : ByteArray) (la : List VT) (w : World) (P : Nat → Prop) (d : Int) (N : Nat) (v : Value) (b : List UInt8) (ao : Option Addr) (cap : Nat) (hk : (VT.node 6 na sa la).sz ≤ k + 1) (hr : (VT.node 6 na sa la).right d = true)
    (a1 : la.length ≤ cap) (a2 : cap ≤ maxLen) (a7 : KidsAt w P la ao 0) (hP : ∀ x, P x → x < w.heap.size ∧ v.ownBlock ≠ some x) (hrow : ByteRow w N v b) (hN : N ≤ w.heap.size) (hb : b.length ≤ 32768) :
    Calls Tryd.prog 27 #[v, .agg #[.int .i64 6, .int .i64 na, .string sa, .slice ao la.length cap]] w (PutEnd w N v ((VT.node 6 na sa la).put 32768 b)) := by
  obtain ⟨hf, hrs', hd⟩ := VT.right_parts hr
  have hrs := Lib.hid hrs'
  have HR := Lib.hid hrow
  obtain ⟨ao0, cap0, rfl, hc0, hc1⟩ := hrow.form
  unfold maxLen at a2 hc1
  have hfp := fits_parts hf
  have HT := Lib.hid (topOf_len hf)
  have hpt : Hid ((VT.node 6 na sa la).put 32768 b = VT.puts 32768 la (b ++ num 6 ++ topOf 6 na sa la.length)) := by show _ = _; rw [VT.put_node, if_neg (by omega)]
  have HB1 : Hid (ByteRow (w.alloc (.cells #[.int .i64 6, .int .i64 na, .string sa, .slice ao la.length cap] 24)) N (.slice ao0 b.length cap0) b) := hrow.below ((Below.refl _ _).alloc (Nat.le_refl _) _)
  have hnk := Lib.hid (num_len (n := 6) (by omega) (by omega))
  have hnkp := Lib.hid (num_pos 6)
  have hnks : Hid ((bytes (num 6)).size = (num 6).length) := bytes_size _
  have HNK : Hid (∀ W, Calls Tryd.prog 48 #[.int .i64 6] W fun e w' => e = .returned (.string (bytes (num 6))) ∧ Below W.heap.size W w') := fun W => refNum_any 6 W (by omega) (by omega)
  have hvo : Hid ((Value.slice ao0 b.length cap0).ownBlock ≠ some w.heap.size) := fun e => by have := HR.out.lt e; omega
  clear hrow hr hrs'
  have hb2 : (b.length : Int) ≤ 32768 := by omega
  go_enter Tryd.func27, Tryd.ntmps27
  go_wp2_with
    (first
     | ((go_at_call 48; refine (HNK.out _).mono ?_; rintro e w5 ⟨rfl, hb5⟩; have B5 := Lib.hid hb5; clear hb5 HNK))
     | (at_builtin; (refine wpList_apps (w := w5) rfl _ _ rfl (v := .slice ao0 b.length cap0) rfl (HB1.out.below B5.out) (s := bytes (num 6)) rfl hnkp.out (by have := B5.out.size; simp at this; omega) (by have := hnk.out; have := hnks.out; omega) ?_; intro v6 w6 hr6 ho6; rw [bytes_data] at hr6; have R6 := Lib.hid hr6; have O6 : Hid (OwnStep _ _ w6 v6) := (OwnStep.made _ B5.out).trans ho6; clear hr6 ho6; clear HB1; obtain ⟨c60, c61, c62, c63⟩ := box_cells O6.out hvo.out)))
  have hbz : Hid ((b ++ num 6 ++ topOf 6 na sa la.length).length ≤ 100000) := by have := hnk.out; have := HT.out; show _ ≤ 100000; rw [List.length_append, List.length_append]; omega
  have RZ : Hid (ByteRow w6 N v6 (b ++ num 6 ++ topOf 6 na sa la.length)) := by
    have e : topOf 6 na sa la.length = [] := by simp [topOf]
    show ByteRow _ _ _ _
    rw [e, List.append_nil]; exact R6.out
  have HL : Hid (PutLoop N w6 v6 32768 la (b ++ num 6 ++ topOf 6 na sa la.length) la.length v6 (.int .i64 0) w6) := ⟨0, (b ++ num 6 ++ topOf 6 na sa la.length), rfl, by omega, RZ.out, rfl, hbz.out, OwnStep.refl _ _⟩
  go_loopg [0, 5] la.length (fun k s0 s1 wr => PutLoop N w6 v6 32768 la (b ++ num 6 ++ topOf 6 na sa la.length) k s0 s1 wr)
  case atStart => exact HL.out
  case round =>
    clear HL
    obtain ⟨i, b', rfl, hik, hrow, hput, hbl, hown⟩ := hrel
    have HROW := Lib.hid hrow
    have HPUT := Lib.hid hput
    have HBL := Lib.hid hbl
    have HOWN := Lib.hid hown
    have OW : Hid (OwnStep (w.alloc (.cells #[.int .i64 6, .int .i64 na, .string sa, .slice ao la.length cap] 24)) (.slice ao0 b.length cap0) wr u0) := O6.out.trans hown
    clear hrow hput hbl hown
    obtain ⟨e0, e1, e2, e3⟩ := box_cells OW.out hvo.out
    by_cases hlt : i < la.length
    · obtain ⟨tk, htk⟩ : ∃ u, la[i]? = some u := ⟨_, List.getElem?_eq_getElem hlt⟩
      obtain ⟨bb, oo, _, _, _, _, rfl, hbb, _⟩ := a7.get htk
      obtain ⟨_, aok, capk, p0, p1, p2, p3, hvk⟩ := a7.cells htk
      unfold vval at hvk
      rw [Nat.zero_add] at p0 p1 p2 p3
      have hbb' := hP _ hbb
      have hblk : wr.heap[bb]? = w.heap[bb]? := (OW.out.block (by simp; omega) hbb'.2).trans (heap_alloc_old _ _ hbb'.1)
      have cc : ∀ j, wr.cell? ⟨bb, j, none⟩ = w.cell? ⟨bb, j, none⟩ := fun j => by simp [World.cell?, hblk]
      replace p0 := (cc _).trans p0
      replace p1 := (cc _).trans p1
      replace p2 := (cc _).trans p2
      replace p3 := (cc _).trans p3
      have hvk' : Hid (ValIs wr P tk (.agg #[.int .i64 tk.kind, .int .i64 tk.num, .string tk.text, .slice aok tk.kids.length capk])) := (hvk.below ((Below.refl _ _).alloc (Nat.le_refl _) _) (fun b hb => (hP b hb).1)).own OW.out (fun b hb => ⟨by have := (hP b hb).1; simp; omega, (hP b hb).2⟩)
      have HPB : Hid (∀ x, P x → x < wr.heap.size ∧ u0.ownBlock ≠ some x) := fun x hx => ⟨by have := (hP x hx).1; have := OW.out.size; simp at this; omega, OW.out.apart (by have := (hP x hx).1; simp; omega) (hP x hx).2⟩
      have hkid : Hid (tk.sz ≤ k) := by
        have h5 : tk.sz < (VT.node 6 na sa la).sz := VT.sz_kid (t := VT.node 6 na sa la) htk
        show tk.sz ≤ k; omega
      have hrk := Lib.hid (VT.rights_get hrs.out htk)
      have hdrop := Lib.hid (VT.drop_kid htk)
      have g1' : (i : Int) < (la.length : Int) := by omega
      have hi0 : (0 : Int) ≤ (i : Int) := by omega
      have hNr : Hid (N ≤ wr.heap.size) := by have := OW.out.size; simp at this; show N ≤ wr.heap.size; omega
      clear hvk htk cc hblk
      go_wp2_with ((go_at_call 27; refine (ih tk _ _ P (d + 1) N u0 b' hkid.out hrk.out hvk'.out HPB.out HROW.out hNr.out HBL.out).mono ?_; rintro e w7 ⟨v7, rfl, hr7, ho7⟩; have HR7 := Lib.hid hr7; have HO7 := Lib.hid ho7; clear hr7 ho7))
      go_roundg (gk - 1)
      case measure => omega
      case rel => exact ⟨i + 1, _, by go_num, by omega, HR7.out, by rw [HPUT.out, hdrop.out, VT.puts_cons], by have := VT.put_len (L := 32768) tk b' (d + 1) hrk.out; have := HBL.out; omega, HOWN.out.trans HO7.out⟩
    · obtain rfl : i = la.length := by omega
      go_wp2
      go_ret
      refine PutEnd.boxed (o := .cells #[.int .i64 6, .int .i64 na, .string sa, .slice ao la.length cap] 24) ⟨_, rfl, ?_, OW.out⟩ (fun k hk => HR.out.lt hk)
      rw [hpt.out, HPUT.out, List.drop_length, VT.puts_nil]
      exact HROW.out

include ih in
set_option maxRecDepth 100000 in
set_option maxHeartbeats 3200000 in
theorem bytes_0 (na : Int) (sa : ByteArray) (la : List VT) (w : World) (P : Nat → Prop) (d : Int) (N : Nat) (v : Value) (b : List UInt8) (ao : Option Addr) (cap : Nat) (hk : (VT.node 0 na sa la).sz ≤ k + 1) (hr : (VT.node 0 na sa la).right d = true)
    (a1 : la.length ≤ cap) (a2 : cap ≤ maxLen) (a7 : KidsAt w P la ao 0) (hP : ∀ x, P x → x < w.heap.size ∧ v.ownBlock ≠ some x) (hrow : ByteRow w N v b) (hN : N ≤ w.heap.size) (hb : b.length ≤ 32768) :
    Calls Tryd.prog 27 #[v, .agg #[.int .i64 0, .int .i64 na, .string sa, .slice ao la.length cap]] w (PutEnd w N v ((VT.node 0 na sa la).put 32768 b)) := by
  obtain ⟨hf, hrs', hd⟩ := VT.right_parts hr
  have hrs := Lib.hid hrs'
  have HR := Lib.hid hrow
  obtain ⟨ao0, cap0, rfl, hc0, hc1⟩ := hrow.form
  unfold maxLen at a2 hc1
  have hfp := fits_parts hf
  have HT := Lib.hid (topOf_len hf)
  have hpt : Hid ((VT.node 0 na sa la).put 32768 b = VT.puts 32768 la (b ++ num 0 ++ topOf 0 na sa la.length)) := by show _ = _; rw [VT.put_node, if_neg (by omega)]
  have HB1 : Hid (ByteRow (w.alloc (.cells #[.int .i64 0, .int .i64 na, .string sa, .slice ao la.length cap] 24)) N (.slice ao0 b.length cap0) b) := hrow.below ((Below.refl _ _).alloc (Nat.le_refl _) _)
  have hnk := Lib.hid (num_len (n := 0) (by omega) (by omega))
  have hnkp := Lib.hid (num_pos 0)
  have hnks : Hid ((bytes (num 0)).size = (num 0).length) := bytes_size _
  have HNK : Hid (∀ W, Calls Tryd.prog 48 #[.int .i64 0] W fun e w' => e = .returned (.string (bytes (num 0))) ∧ Below W.heap.size W w') := fun W => refNum_any 0 W (by omega) (by omega)
  have hvo : Hid ((Value.slice ao0 b.length cap0).ownBlock ≠ some w.heap.size) := fun e => by have := HR.out.lt e; omega
  clear hrow hr hrs'
  have hb2 : (b.length : Int) ≤ 32768 := by omega
  have hna := Lib.hid (num_len (n := na) (by omega) (by omega))
  have hnap := Lib.hid (num_pos na)
  have hnas : Hid ((bytes (num na)).size = (num na).length) := bytes_size _
  have HNA : Hid (∀ W, Calls Tryd.prog 48 #[.int .i64 na] W fun e w' => e = .returned (.string (bytes (num na))) ∧ Below W.heap.size W w') := fun W => refNum_any na W (by omega) (by omega)
  go_enter Tryd.func27, Tryd.ntmps27
  go_wp2_with
    (first
     | ((go_at_call 48; refine (HNK.out _).mono ?_; rintro e w5 ⟨rfl, hb5⟩; have B5 := Lib.hid hb5; clear hb5 HNK))
     | ((go_at_call 48; refine (HNA.out _).mono ?_; rintro e w7 ⟨rfl, hb7⟩; have B7 := Lib.hid hb7; clear hb7))
     | (at_builtin; (refine wpList_apps (w := w5) rfl _ _ rfl (v := .slice ao0 b.length cap0) rfl (HB1.out.below B5.out) (s := bytes (num 0)) rfl hnkp.out (by have := B5.out.size; simp at this; omega) (by have := hnk.out; have := hnks.out; omega) ?_; intro v6 w6 hr6 ho6; rw [bytes_data] at hr6; have R6 := Lib.hid hr6; have O6 : Hid (OwnStep _ _ w6 v6) := (OwnStep.made _ B5.out).trans ho6; clear hr6 ho6; clear HB1; obtain ⟨c60, c61, c62, c63⟩ := box_cells O6.out hvo.out))
     | (at_builtin; (refine wpList_apps (w := w7) rfl _ _ rfl (v := v6) rfl (R6.out.below B7.out) (s := bytes (num na)) rfl hnap.out (by have := B7.out.size; have := O6.out.size; simp at this; omega) (by have := hnk.out; have := hna.out; have := hnas.out; rw [List.length_append]; omega) ?_; intro v8 w8 hr8 ho8; rw [bytes_data] at hr8; have R8 := Lib.hid hr8; have O8 : Hid (OwnStep _ _ w8 v8) := O6.out.trans ((OwnStep.made _ B7.out).trans ho8); clear hr8 ho8; obtain ⟨c80, c81, c82, c83⟩ := box_cells O8.out hvo.out)))
  have e : topOf 0 na sa la.length = num na := by simp [topOf]
  have hbz : Hid ((b ++ num 0 ++ topOf 0 na sa la.length).length ≤ 100000) := by have := hnk.out; have := HT.out; show _ ≤ 100000; rw [List.length_append, List.length_append]; omega
  have RZ : Hid (ByteRow w8 N v8 (b ++ num 0 ++ topOf 0 na sa la.length)) := by show ByteRow _ _ _ _; rw [e]; exact R8.out
  clear e
  have HL : Hid (PutLoop N w8 v8 32768 la (b ++ num 0 ++ topOf 0 na sa la.length) la.length v8 (.int .i64 0) w8) := ⟨0, (b ++ num 0 ++ topOf 0 na sa la.length), rfl, by omega, RZ.out, rfl, hbz.out, OwnStep.refl _ _⟩
  go_loopg [0, 5] la.length (fun k s0 s1 wr => PutLoop N w8 v8 32768 la (b ++ num 0 ++ topOf 0 na sa la.length) k s0 s1 wr)
  case atStart => exact HL.out
  case round =>
    clear HL
    obtain ⟨i, b', rfl, hik, hrow, hput, hbl, hown⟩ := hrel
    have HROW := Lib.hid hrow
    have HPUT := Lib.hid hput
    have HBL := Lib.hid hbl
    have HOWN := Lib.hid hown
    have OW : Hid (OwnStep (w.alloc (.cells #[.int .i64 0, .int .i64 na, .string sa, .slice ao la.length cap] 24)) (.slice ao0 b.length cap0) wr u0) := O8.out.trans hown
    clear hrow hput hbl hown
    obtain ⟨e0, e1, e2, e3⟩ := box_cells OW.out hvo.out
    by_cases hlt : i < la.length
    · obtain ⟨tk, htk⟩ : ∃ u, la[i]? = some u := ⟨_, List.getElem?_eq_getElem hlt⟩
      obtain ⟨bb, oo, _, _, _, _, rfl, hbb, _⟩ := a7.get htk
      obtain ⟨_, aok, capk, p0, p1, p2, p3, hvk⟩ := a7.cells htk
      unfold vval at hvk
      rw [Nat.zero_add] at p0 p1 p2 p3
      have hbb' := hP _ hbb
      have hblk : wr.heap[bb]? = w.heap[bb]? := (OW.out.block (by simp; omega) hbb'.2).trans (heap_alloc_old _ _ hbb'.1)
      have cc : ∀ j, wr.cell? ⟨bb, j, none⟩ = w.cell? ⟨bb, j, none⟩ := fun j => by simp [World.cell?, hblk]
      replace p0 := (cc _).trans p0
      replace p1 := (cc _).trans p1
      replace p2 := (cc _).trans p2
      replace p3 := (cc _).trans p3
      have hvk' : Hid (ValIs wr P tk (.agg #[.int .i64 tk.kind, .int .i64 tk.num, .string tk.text, .slice aok tk.kids.length capk])) := (hvk.below ((Below.refl _ _).alloc (Nat.le_refl _) _) (fun b hb => (hP b hb).1)).own OW.out (fun b hb => ⟨by have := (hP b hb).1; simp; omega, (hP b hb).2⟩)
      have HPB : Hid (∀ x, P x → x < wr.heap.size ∧ u0.ownBlock ≠ some x) := fun x hx => ⟨by have := (hP x hx).1; have := OW.out.size; simp at this; omega, OW.out.apart (by have := (hP x hx).1; simp; omega) (hP x hx).2⟩
      have hkid : Hid (tk.sz ≤ k) := by
        have h5 : tk.sz < (VT.node 0 na sa la).sz := VT.sz_kid (t := VT.node 0 na sa la) htk
        show tk.sz ≤ k; omega
      have hrk := Lib.hid (VT.rights_get hrs.out htk)
      have hdrop := Lib.hid (VT.drop_kid htk)
      have g1' : (i : Int) < (la.length : Int) := by omega
      have hi0 : (0 : Int) ≤ (i : Int) := by omega
      have hNr : Hid (N ≤ wr.heap.size) := by have := OW.out.size; simp at this; show N ≤ wr.heap.size; omega
      clear hvk htk cc hblk
      go_wp2_with ((go_at_call 27; refine (ih tk _ _ P (d + 1) N u0 b' hkid.out hrk.out hvk'.out HPB.out HROW.out hNr.out HBL.out).mono ?_; rintro e w7 ⟨v7, rfl, hr7, ho7⟩; have HR7 := Lib.hid hr7; have HO7 := Lib.hid ho7; clear hr7 ho7))
      go_roundg (gk - 1)
      case measure => omega
      case rel => exact ⟨i + 1, _, by go_num, by omega, HR7.out, by rw [HPUT.out, hdrop.out, VT.puts_cons], by have := VT.put_len (L := 32768) tk b' (d + 1) hrk.out; have := HBL.out; omega, HOWN.out.trans HO7.out⟩
    · obtain rfl : i = la.length := by omega
      go_wp2
      go_ret
      refine PutEnd.boxed (o := .cells #[.int .i64 0, .int .i64 na, .string sa, .slice ao la.length cap] 24) ⟨_, rfl, ?_, OW.out⟩ (fun k hk => HR.out.lt hk)
      rw [hpt.out, HPUT.out, List.drop_length, VT.puts_nil]
      exact HROW.out

include ih in
set_option maxRecDepth 100000 in
set_option maxHeartbeats 3200000 in
theorem bytes_5 (na : Int) (sa : ByteArray) (la : List VT) (w : World) (P : Nat → Prop) (d : Int) (N : Nat) (v : Value) (b : List UInt8) (ao : Option Addr) (cap : Nat) (hk : (VT.node 5 na sa la).sz ≤ k + 1) (hr : (VT.node 5 na sa la).right d = true)
    (a1 : la.length ≤ cap) (a2 : cap ≤ maxLen) (a7 : KidsAt w P la ao 0) (hP : ∀ x, P x → x < w.heap.size ∧ v.ownBlock ≠ some x) (hrow : ByteRow w N v b) (hN : N ≤ w.heap.size) (hb : b.length ≤ 32768) :
    Calls Tryd.prog 27 #[v, .agg #[.int .i64 5, .int .i64 na, .string sa, .slice ao la.length cap]] w (PutEnd w N v ((VT.node 5 na sa la).put 32768 b)) := by
  obtain ⟨hf, hrs', hd⟩ := VT.right_parts hr
  have hrs := Lib.hid hrs'
  have HR := Lib.hid hrow
  obtain ⟨ao0, cap0, rfl, hc0, hc1⟩ := hrow.form
  unfold maxLen at a2 hc1
  have hfp := fits_parts hf
  have HT := Lib.hid (topOf_len hf)
  have hpt : Hid ((VT.node 5 na sa la).put 32768 b = VT.puts 32768 la (b ++ num 5 ++ topOf 5 na sa la.length)) := by show _ = _; rw [VT.put_node, if_neg (by omega)]
  have HB1 : Hid (ByteRow (w.alloc (.cells #[.int .i64 5, .int .i64 na, .string sa, .slice ao la.length cap] 24)) N (.slice ao0 b.length cap0) b) := hrow.below ((Below.refl _ _).alloc (Nat.le_refl _) _)
  have hnk := Lib.hid (num_len (n := 5) (by omega) (by omega))
  have hnkp := Lib.hid (num_pos 5)
  have hnks : Hid ((bytes (num 5)).size = (num 5).length) := bytes_size _
  have HNK : Hid (∀ W, Calls Tryd.prog 48 #[.int .i64 5] W fun e w' => e = .returned (.string (bytes (num 5))) ∧ Below W.heap.size W w') := fun W => refNum_any 5 W (by omega) (by omega)
  have hvo : Hid ((Value.slice ao0 b.length cap0).ownBlock ≠ some w.heap.size) := fun e => by have := HR.out.lt e; omega
  clear hrow hr hrs'
  have hb2 : (b.length : Int) ≤ 32768 := by omega
  have hna := Lib.hid (num_len (n := na) (by omega) (by omega))
  have hnap := Lib.hid (num_pos na)
  have hnas : Hid ((bytes (num na)).size = (num na).length) := bytes_size _
  have HNA : Hid (∀ W, Calls Tryd.prog 48 #[.int .i64 na] W fun e w' => e = .returned (.string (bytes (num na))) ∧ Below W.heap.size W w') := fun W => refNum_any na W (by omega) (by omega)
  go_enter Tryd.func27, Tryd.ntmps27
  go_wp2_with
    (first
     | ((go_at_call 48; refine (HNK.out _).mono ?_; rintro e w5 ⟨rfl, hb5⟩; have B5 := Lib.hid hb5; clear hb5 HNK))
     | ((go_at_call 48; refine (HNA.out _).mono ?_; rintro e w7 ⟨rfl, hb7⟩; have B7 := Lib.hid hb7; clear hb7))
     | (at_builtin; (refine wpList_apps (w := w5) rfl _ _ rfl (v := .slice ao0 b.length cap0) rfl (HB1.out.below B5.out) (s := bytes (num 5)) rfl hnkp.out (by have := B5.out.size; simp at this; omega) (by have := hnk.out; have := hnks.out; omega) ?_; intro v6 w6 hr6 ho6; rw [bytes_data] at hr6; have R6 := Lib.hid hr6; have O6 : Hid (OwnStep _ _ w6 v6) := (OwnStep.made _ B5.out).trans ho6; clear hr6 ho6; clear HB1; obtain ⟨c60, c61, c62, c63⟩ := box_cells O6.out hvo.out))
     | (at_builtin; (refine wpList_apps (w := w7) rfl _ _ rfl (v := v6) rfl (R6.out.below B7.out) (s := bytes (num na)) rfl hnap.out (by have := B7.out.size; have := O6.out.size; simp at this; omega) (by have := hnk.out; have := hna.out; have := hnas.out; rw [List.length_append]; omega) ?_; intro v8 w8 hr8 ho8; rw [bytes_data] at hr8; have R8 := Lib.hid hr8; have O8 : Hid (OwnStep _ _ w8 v8) := O6.out.trans ((OwnStep.made _ B7.out).trans ho8); clear hr8 ho8; obtain ⟨c80, c81, c82, c83⟩ := box_cells O8.out hvo.out)))
  have e : topOf 5 na sa la.length = num na := by simp [topOf]
  have hbz : Hid ((b ++ num 5 ++ topOf 5 na sa la.length).length ≤ 100000) := by have := hnk.out; have := HT.out; show _ ≤ 100000; rw [List.length_append, List.length_append]; omega
  have RZ : Hid (ByteRow w8 N v8 (b ++ num 5 ++ topOf 5 na sa la.length)) := by show ByteRow _ _ _ _; rw [e]; exact R8.out
  clear e
  have HL : Hid (PutLoop N w8 v8 32768 la (b ++ num 5 ++ topOf 5 na sa la.length) la.length v8 (.int .i64 0) w8) := ⟨0, (b ++ num 5 ++ topOf 5 na sa la.length), rfl, by omega, RZ.out, rfl, hbz.out, OwnStep.refl _ _⟩
  go_loopg [0, 5] la.length (fun k s0 s1 wr => PutLoop N w8 v8 32768 la (b ++ num 5 ++ topOf 5 na sa la.length) k s0 s1 wr)
  case atStart => exact HL.out
  case round =>
    clear HL
    obtain ⟨i, b', rfl, hik, hrow, hput, hbl, hown⟩ := hrel
    have HROW := Lib.hid hrow
    have HPUT := Lib.hid hput
    have HBL := Lib.hid hbl
    have HOWN := Lib.hid hown
    have OW : Hid (OwnStep (w.alloc (.cells #[.int .i64 5, .int .i64 na, .string sa, .slice ao la.length cap] 24)) (.slice ao0 b.length cap0) wr u0) := O8.out.trans hown
    clear hrow hput hbl hown
    obtain ⟨e0, e1, e2, e3⟩ := box_cells OW.out hvo.out
    by_cases hlt : i < la.length
    · obtain ⟨tk, htk⟩ : ∃ u, la[i]? = some u := ⟨_, List.getElem?_eq_getElem hlt⟩
      obtain ⟨bb, oo, _, _, _, _, rfl, hbb, _⟩ := a7.get htk
      obtain ⟨_, aok, capk, p0, p1, p2, p3, hvk⟩ := a7.cells htk
      unfold vval at hvk
      rw [Nat.zero_add] at p0 p1 p2 p3
      have hbb' := hP _ hbb
      have hblk : wr.heap[bb]? = w.heap[bb]? := (OW.out.block (by simp; omega) hbb'.2).trans (heap_alloc_old _ _ hbb'.1)
      have cc : ∀ j, wr.cell? ⟨bb, j, none⟩ = w.cell? ⟨bb, j, none⟩ := fun j => by simp [World.cell?, hblk]
      replace p0 := (cc _).trans p0
      replace p1 := (cc _).trans p1
      replace p2 := (cc _).trans p2
      replace p3 := (cc _).trans p3
      have hvk' : Hid (ValIs wr P tk (.agg #[.int .i64 tk.kind, .int .i64 tk.num, .string tk.text, .slice aok tk.kids.length capk])) := (hvk.below ((Below.refl _ _).alloc (Nat.le_refl _) _) (fun b hb => (hP b hb).1)).own OW.out (fun b hb => ⟨by have := (hP b hb).1; simp; omega, (hP b hb).2⟩)
      have HPB : Hid (∀ x, P x → x < wr.heap.size ∧ u0.ownBlock ≠ some x) := fun x hx => ⟨by have := (hP x hx).1; have := OW.out.size; simp at this; omega, OW.out.apart (by have := (hP x hx).1; simp; omega) (hP x hx).2⟩
      have hkid : Hid (tk.sz ≤ k) := by
        have h5 : tk.sz < (VT.node 5 na sa la).sz := VT.sz_kid (t := VT.node 5 na sa la) htk
        show tk.sz ≤ k; omega
      have hrk := Lib.hid (VT.rights_get hrs.out htk)
      have hdrop := Lib.hid (VT.drop_kid htk)
      have g1' : (i : Int) < (la.length : Int) := by omega
      have hi0 : (0 : Int) ≤ (i : Int) := by omega
      have hNr : Hid (N ≤ wr.heap.size) := by have := OW.out.size; simp at this; show N ≤ wr.heap.size; omega
      clear hvk htk cc hblk
      go_wp2_with ((go_at_call 27; refine (ih tk _ _ P (d + 1) N u0 b' hkid.out hrk.out hvk'.out HPB.out HROW.out hNr.out HBL.out).mono ?_; rintro e w7 ⟨v7, rfl, hr7, ho7⟩; have HR7 := Lib.hid hr7; have HO7 := Lib.hid ho7; clear hr7 ho7))
      go_roundg (gk - 1)
      case measure => omega
      case rel => exact ⟨i + 1, _, by go_num, by omega, HR7.out, by rw [HPUT.out, hdrop.out, VT.puts_cons], by have := VT.put_len (L := 32768) tk b' (d + 1) hrk.out; have := HBL.out; omega, HOWN.out.trans HO7.out⟩
    · obtain rfl : i = la.length := by omega
      go_wp2
      go_ret
      refine PutEnd.boxed (o := .cells #[.int .i64 5, .int .i64 na, .string sa, .slice ao la.length cap] 24) ⟨_, rfl, ?_, OW.out⟩ (fun k hk => HR.out.lt hk)
      rw [hpt.out, HPUT.out, List.drop_length, VT.puts_nil]
      exact HROW.out

include ih in
set_option maxRecDepth 100000 in
set_option maxHeartbeats 3200000 in
theorem bytes_4 (na : Int) (sa : ByteArray) (la : List VT) (w : World) (P : Nat → Prop) (d : Int) (N : Nat) (v : Value) (b : List UInt8) (ao : Option Addr) (cap : Nat) (hk : (VT.node 4 na sa la).sz ≤ k + 1) (hr : (VT.node 4 na sa la).right d = true)
    (a1 : la.length ≤ cap) (a2 : cap ≤ maxLen) (a7 : KidsAt w P la ao 0) (hP : ∀ x, P x → x < w.heap.size ∧ v.ownBlock ≠ some x) (hrow : ByteRow w N v b) (hN : N ≤ w.heap.size) (hb : b.length ≤ 32768) :
    Calls Tryd.prog 27 #[v, .agg #[.int .i64 4, .int .i64 na, .string sa, .slice ao la.length cap]] w (PutEnd w N v ((VT.node 4 na sa la).put 32768 b)) := by
  obtain ⟨hf, hrs', hd⟩ := VT.right_parts hr
  have hrs := Lib.hid hrs'
  have HR := Lib.hid hrow
  obtain ⟨ao0, cap0, rfl, hc0, hc1⟩ := hrow.form
  unfold maxLen at a2 hc1
  have hfp := fits_parts hf
  have HT := Lib.hid (topOf_len hf)
  have hpt : Hid ((VT.node 4 na sa la).put 32768 b = VT.puts 32768 la (b ++ num 4 ++ topOf 4 na sa la.length)) := by show _ = _; rw [VT.put_node, if_neg (by omega)]
  have HB1 : Hid (ByteRow (w.alloc (.cells #[.int .i64 4, .int .i64 na, .string sa, .slice ao la.length cap] 24)) N (.slice ao0 b.length cap0) b) := hrow.below ((Below.refl _ _).alloc (Nat.le_refl _) _)
  have hnk := Lib.hid (num_len (n := 4) (by omega) (by omega))
  have hnkp := Lib.hid (num_pos 4)
  have hnks : Hid ((bytes (num 4)).size = (num 4).length) := bytes_size _
  have HNK : Hid (∀ W, Calls Tryd.prog 48 #[.int .i64 4] W fun e w' => e = .returned (.string (bytes (num 4))) ∧ Below W.heap.size W w') := fun W => refNum_any 4 W (by omega) (by omega)
  have hvo : Hid ((Value.slice ao0 b.length cap0).ownBlock ≠ some w.heap.size) := fun e => by have := HR.out.lt e; omega
  clear hrow hr hrs'
  have hb2 : (b.length : Int) ≤ 32768 := by omega
  have hna := Lib.hid (num_len (n := (la.length : Int)) (by omega) (by omega))
  have hnap := Lib.hid (num_pos (la.length : Int))
  have hnas : Hid ((bytes (num (la.length : Int))).size = (num (la.length : Int)).length) := bytes_size _
  have HNA : Hid (∀ W, Calls Tryd.prog 48 #[.int .i64 (la.length : Int)] W fun e w' => e = .returned (.string (bytes (num (la.length : Int)))) ∧ Below W.heap.size W w') := fun W => refNum_any (la.length : Int) W (by omega) (by omega)
  go_enter Tryd.func27, Tryd.ntmps27
  go_wp2_with
    (first
     | ((go_at_call 48; refine (HNK.out _).mono ?_; rintro e w5 ⟨rfl, hb5⟩; have B5 := Lib.hid hb5; clear hb5 HNK))
     | ((go_at_call 48; refine (HNA.out _).mono ?_; rintro e w7 ⟨rfl, hb7⟩; have B7 := Lib.hid hb7; clear hb7))
     | (at_builtin; (refine wpList_apps (w := w5) rfl _ _ rfl (v := .slice ao0 b.length cap0) rfl (HB1.out.below B5.out) (s := bytes (num 4)) rfl hnkp.out (by have := B5.out.size; simp at this; omega) (by have := hnk.out; have := hnks.out; omega) ?_; intro v6 w6 hr6 ho6; rw [bytes_data] at hr6; have R6 := Lib.hid hr6; have O6 : Hid (OwnStep _ _ w6 v6) := (OwnStep.made _ B5.out).trans ho6; clear hr6 ho6; clear HB1; obtain ⟨c60, c61, c62, c63⟩ := box_cells O6.out hvo.out))
     | (at_builtin; (refine wpList_apps (w := w7) rfl _ _ rfl (v := v6) rfl (R6.out.below B7.out) (s := bytes (num (la.length : Int))) rfl hnap.out (by have := B7.out.size; have := O6.out.size; simp at this; omega) (by have := hnk.out; have := hna.out; have := hnas.out; rw [List.length_append]; omega) ?_; intro v8 w8 hr8 ho8; rw [bytes_data] at hr8; have R8 := Lib.hid hr8; have O8 : Hid (OwnStep _ _ w8 v8) := O6.out.trans ((OwnStep.made _ B7.out).trans ho8); clear hr8 ho8; obtain ⟨c80, c81, c82, c83⟩ := box_cells O8.out hvo.out)))
  have e : topOf 4 na sa la.length = num (la.length : Int) := by simp [topOf]
  have hbz : Hid ((b ++ num 4 ++ topOf 4 na sa la.length).length ≤ 100000) := by have := hnk.out; have := HT.out; show _ ≤ 100000; rw [List.length_append, List.length_append]; omega
  have RZ : Hid (ByteRow w8 N v8 (b ++ num 4 ++ topOf 4 na sa la.length)) := by show ByteRow _ _ _ _; rw [e]; exact R8.out
  clear e
  have HL : Hid (PutLoop N w8 v8 32768 la (b ++ num 4 ++ topOf 4 na sa la.length) la.length v8 (.int .i64 0) w8) := ⟨0, (b ++ num 4 ++ topOf 4 na sa la.length), rfl, by omega, RZ.out, rfl, hbz.out, OwnStep.refl _ _⟩
  go_loopg [0, 5] la.length (fun k s0 s1 wr => PutLoop N w8 v8 32768 la (b ++ num 4 ++ topOf 4 na sa la.length) k s0 s1 wr)
  case atStart => exact HL.out
  case round =>
    clear HL
    obtain ⟨i, b', rfl, hik, hrow, hput, hbl, hown⟩ := hrel
    have HROW := Lib.hid hrow
    have HPUT := Lib.hid hput
    have HBL := Lib.hid hbl
    have HOWN := Lib.hid hown
    have OW : Hid (OwnStep (w.alloc (.cells #[.int .i64 4, .int .i64 na, .string sa, .slice ao la.length cap] 24)) (.slice ao0 b.length cap0) wr u0) := O8.out.trans hown
    clear hrow hput hbl hown
    obtain ⟨e0, e1, e2, e3⟩ := box_cells OW.out hvo.out
    by_cases hlt : i < la.length
    · obtain ⟨tk, htk⟩ : ∃ u, la[i]? = some u := ⟨_, List.getElem?_eq_getElem hlt⟩
      obtain ⟨bb, oo, _, _, _, _, rfl, hbb, _⟩ := a7.get htk
      obtain ⟨_, aok, capk, p0, p1, p2, p3, hvk⟩ := a7.cells htk
      unfold vval at hvk
      rw [Nat.zero_add] at p0 p1 p2 p3
      have hbb' := hP _ hbb
      have hblk : wr.heap[bb]? = w.heap[bb]? := (OW.out.block (by simp; omega) hbb'.2).trans (heap_alloc_old _ _ hbb'.1)
      have cc : ∀ j, wr.cell? ⟨bb, j, none⟩ = w.cell? ⟨bb, j, none⟩ := fun j => by simp [World.cell?, hblk]
      replace p0 := (cc _).trans p0
      replace p1 := (cc _).trans p1
      replace p2 := (cc _).trans p2
      replace p3 := (cc _).trans p3
      have hvk' : Hid (ValIs wr P tk (.agg #[.int .i64 tk.kind, .int .i64 tk.num, .string tk.text, .slice aok tk.kids.length capk])) := (hvk.below ((Below.refl _ _).alloc (Nat.le_refl _) _) (fun b hb => (hP b hb).1)).own OW.out (fun b hb => ⟨by have := (hP b hb).1; simp; omega, (hP b hb).2⟩)
      have HPB : Hid (∀ x, P x → x < wr.heap.size ∧ u0.ownBlock ≠ some x) := fun x hx => ⟨by have := (hP x hx).1; have := OW.out.size; simp at this; omega, OW.out.apart (by have := (hP x hx).1; simp; omega) (hP x hx).2⟩
      have hkid : Hid (tk.sz ≤ k) := by
        have h5 : tk.sz < (VT.node 4 na sa la).sz := VT.sz_kid (t := VT.node 4 na sa la) htk
        show tk.sz ≤ k; omega
      have hrk := Lib.hid (VT.rights_get hrs.out htk)
      have hdrop := Lib.hid (VT.drop_kid htk)
      have g1' : (i : Int) < (la.length : Int) := by omega
      have hi0 : (0 : Int) ≤ (i : Int) := by omega
      have hNr : Hid (N ≤ wr.heap.size) := by have := OW.out.size; simp at this; show N ≤ wr.heap.size; omega
      clear hvk htk cc hblk
      go_wp2_with ((go_at_call 27; refine (ih tk _ _ P (d + 1) N u0 b' hkid.out hrk.out hvk'.out HPB.out HROW.out hNr.out HBL.out).mono ?_; rintro e w7 ⟨v7, rfl, hr7, ho7⟩; have HR7 := Lib.hid hr7; have HO7 := Lib.hid ho7; clear hr7 ho7))
      go_roundg (gk - 1)
      case measure => omega
      case rel => exact ⟨i + 1, _, by go_num, by omega, HR7.out, by rw [HPUT.out, hdrop.out, VT.puts_cons], by have := VT.put_len (L := 32768) tk b' (d + 1) hrk.out; have := HBL.out; omega, HOWN.out.trans HO7.out⟩
    · obtain rfl : i = la.length := by omega
      go_wp2
      go_ret
      refine PutEnd.boxed (o := .cells #[.int .i64 4, .int .i64 na, .string sa, .slice ao la.length cap] 24) ⟨_, rfl, ?_, OW.out⟩ (fun k hk => HR.out.lt hk)
      rw [hpt.out, HPUT.out, List.drop_length, VT.puts_nil]
      exact HROW.out

include ih in
set_option maxRecDepth 100000 in
set_option maxHeartbeats 3200000 in
theorem bytes_1 (na : Int) (sa : ByteArray) (la : List VT) (w : World) (P : Nat → Prop) (d : Int) (N : Nat) (v : Value) (b : List UInt8) (ao : Option Addr) (cap : Nat) (hk : (VT.node 1 na sa la).sz ≤ k + 1) (hr : (VT.node 1 na sa la).right d = true)
    (a1 : la.length ≤ cap) (a2 : cap ≤ maxLen) (a7 : KidsAt w P la ao 0) (hP : ∀ x, P x → x < w.heap.size ∧ v.ownBlock ≠ some x) (hrow : ByteRow w N v b) (hN : N ≤ w.heap.size) (hb : b.length ≤ 32768) :
    Calls Tryd.prog 27 #[v, .agg #[.int .i64 1, .int .i64 na, .string sa, .slice ao la.length cap]] w (PutEnd w N v ((VT.node 1 na sa la).put 32768 b)) := by
  obtain ⟨hf, hrs', hd⟩ := VT.right_parts hr
  have hrs := Lib.hid hrs'
  have HR := Lib.hid hrow
  obtain ⟨ao0, cap0, rfl, hc0, hc1⟩ := hrow.form
  unfold maxLen at a2 hc1
  have hfp := fits_parts hf
  have HT := Lib.hid (topOf_len hf)
  have hpt : Hid ((VT.node 1 na sa la).put 32768 b = VT.puts 32768 la (b ++ num 1 ++ topOf 1 na sa la.length)) := by show _ = _; rw [VT.put_node, if_neg (by omega)]
  have HB1 : Hid (ByteRow (w.alloc (.cells #[.int .i64 1, .int .i64 na, .string sa, .slice ao la.length cap] 24)) N (.slice ao0 b.length cap0) b) := hrow.below ((Below.refl _ _).alloc (Nat.le_refl _) _)
  have hnk := Lib.hid (num_len (n := 1) (by omega) (by omega))
  have hnkp := Lib.hid (num_pos 1)
  have hnks : Hid ((bytes (num 1)).size = (num 1).length) := bytes_size _
  have HNK : Hid (∀ W, Calls Tryd.prog 48 #[.int .i64 1] W fun e w' => e = .returned (.string (bytes (num 1))) ∧ Below W.heap.size W w') := fun W => refNum_any 1 W (by omega) (by omega)
  have hvo : Hid ((Value.slice ao0 b.length cap0).ownBlock ≠ some w.heap.size) := fun e => by have := HR.out.lt e; omega
  clear hrow hr hrs'
  have hb2 : (b.length : Int) ≤ 32768 := by omega
  have hna := Lib.hid (str_len (s := sa.data.toList) (by simp; omega))
  have hsl : sa.data.toList.length = sa.size := by simp
  rw [hsl] at hna
  have hnas : Hid ((bytes (str sa.data.toList)).size = (str sa.data.toList).length) := bytes_size _
  have hnap : Hid (0 < (bytes (str sa.data.toList)).size) := by show _ < _; rw [bytes_size]; have := str_ne sa.data.toList; cases h : str sa.data.toList; exact absurd h this; simp
  have HNA : Hid (∀ W, Calls Tryd.prog 49 #[.string sa] W fun e w' => e = .returned (.string (bytes (str sa.data.toList))) ∧ Below W.heap.size W w') := fun W => refStr_any sa W (by omega)
  clear hsl
  go_enter Tryd.func27, Tryd.ntmps27
  go_wp2_with
    (first
     | ((go_at_call 48; refine (HNK.out _).mono ?_; rintro e w5 ⟨rfl, hb5⟩; have B5 := Lib.hid hb5; clear hb5 HNK))
     | ((go_at_call 49; refine (HNA.out _).mono ?_; rintro e w7 ⟨rfl, hb7⟩; have B7 := Lib.hid hb7; clear hb7))
     | (at_builtin; (refine wpList_apps (w := w5) rfl _ _ rfl (v := .slice ao0 b.length cap0) rfl (HB1.out.below B5.out) (s := bytes (num 1)) rfl hnkp.out (by have := B5.out.size; simp at this; omega) (by have := hnk.out; have := hnks.out; omega) ?_; intro v6 w6 hr6 ho6; rw [bytes_data] at hr6; have R6 := Lib.hid hr6; have O6 : Hid (OwnStep _ _ w6 v6) := (OwnStep.made _ B5.out).trans ho6; clear hr6 ho6; clear HB1; obtain ⟨c60, c61, c62, c63⟩ := box_cells O6.out hvo.out))
     | (at_builtin; (refine wpList_apps (w := w7) rfl _ _ rfl (v := v6) rfl (R6.out.below B7.out) (s := bytes (str sa.data.toList)) rfl hnap.out (by have := B7.out.size; have := O6.out.size; simp at this; omega) (by have := hnk.out; have := hna.out; have := hnas.out; rw [List.length_append]; omega) ?_; intro v8 w8 hr8 ho8; rw [bytes_data] at hr8; have R8 := Lib.hid hr8; have O8 : Hid (OwnStep _ _ w8 v8) := O6.out.trans ((OwnStep.made _ B7.out).trans ho8); clear hr8 ho8; obtain ⟨c80, c81, c82, c83⟩ := box_cells O8.out hvo.out)))
  have e : topOf 1 na sa la.length = str sa.data.toList := by simp [topOf]
  have hbz : Hid ((b ++ num 1 ++ topOf 1 na sa la.length).length ≤ 100000) := by have := hnk.out; have := HT.out; show _ ≤ 100000; rw [List.length_append, List.length_append]; omega
  have RZ : Hid (ByteRow w8 N v8 (b ++ num 1 ++ topOf 1 na sa la.length)) := by show ByteRow _ _ _ _; rw [e]; exact R8.out
  clear e
  have HL : Hid (PutLoop N w8 v8 32768 la (b ++ num 1 ++ topOf 1 na sa la.length) la.length v8 (.int .i64 0) w8) := ⟨0, (b ++ num 1 ++ topOf 1 na sa la.length), rfl, by omega, RZ.out, rfl, hbz.out, OwnStep.refl _ _⟩
  go_loopg [0, 5] la.length (fun k s0 s1 wr => PutLoop N w8 v8 32768 la (b ++ num 1 ++ topOf 1 na sa la.length) k s0 s1 wr)
  case atStart => exact HL.out
  case round =>
    clear HL
    obtain ⟨i, b', rfl, hik, hrow, hput, hbl, hown⟩ := hrel
    have HROW := Lib.hid hrow
    have HPUT := Lib.hid hput
    have HBL := Lib.hid hbl
    have HOWN := Lib.hid hown
    have OW : Hid (OwnStep (w.alloc (.cells #[.int .i64 1, .int .i64 na, .string sa, .slice ao la.length cap] 24)) (.slice ao0 b.length cap0) wr u0) := O8.out.trans hown
    clear hrow hput hbl hown
    obtain ⟨e0, e1, e2, e3⟩ := box_cells OW.out hvo.out
    by_cases hlt : i < la.length
    · obtain ⟨tk, htk⟩ : ∃ u, la[i]? = some u := ⟨_, List.getElem?_eq_getElem hlt⟩
      obtain ⟨bb, oo, _, _, _, _, rfl, hbb, _⟩ := a7.get htk
      obtain ⟨_, aok, capk, p0, p1, p2, p3, hvk⟩ := a7.cells htk
      unfold vval at hvk
      rw [Nat.zero_add] at p0 p1 p2 p3
      have hbb' := hP _ hbb
      have hblk : wr.heap[bb]? = w.heap[bb]? := (OW.out.block (by simp; omega) hbb'.2).trans (heap_alloc_old _ _ hbb'.1)
      have cc : ∀ j, wr.cell? ⟨bb, j, none⟩ = w.cell? ⟨bb, j, none⟩ := fun j => by simp [World.cell?, hblk]
      replace p0 := (cc _).trans p0
      replace p1 := (cc _).trans p1
      replace p2 := (cc _).trans p2
      replace p3 := (cc _).trans p3
      have hvk' : Hid (ValIs wr P tk (.agg #[.int .i64 tk.kind, .int .i64 tk.num, .string tk.text, .slice aok tk.kids.length capk])) := (hvk.below ((Below.refl _ _).alloc (Nat.le_refl _) _) (fun b hb => (hP b hb).1)).own OW.out (fun b hb => ⟨by have := (hP b hb).1; simp; omega, (hP b hb).2⟩)
      have HPB : Hid (∀ x, P x → x < wr.heap.size ∧ u0.ownBlock ≠ some x) := fun x hx => ⟨by have := (hP x hx).1; have := OW.out.size; simp at this; omega, OW.out.apart (by have := (hP x hx).1; simp; omega) (hP x hx).2⟩
      have hkid : Hid (tk.sz ≤ k) := by
        have h5 : tk.sz < (VT.node 1 na sa la).sz := VT.sz_kid (t := VT.node 1 na sa la) htk
        show tk.sz ≤ k; omega
      have hrk := Lib.hid (VT.rights_get hrs.out htk)
      have hdrop := Lib.hid (VT.drop_kid htk)
      have g1' : (i : Int) < (la.length : Int) := by omega
      have hi0 : (0 : Int) ≤ (i : Int) := by omega
      have hNr : Hid (N ≤ wr.heap.size) := by have := OW.out.size; simp at this; show N ≤ wr.heap.size; omega
      clear hvk htk cc hblk
      go_wp2_with ((go_at_call 27; refine (ih tk _ _ P (d + 1) N u0 b' hkid.out hrk.out hvk'.out HPB.out HROW.out hNr.out HBL.out).mono ?_; rintro e w7 ⟨v7, rfl, hr7, ho7⟩; have HR7 := Lib.hid hr7; have HO7 := Lib.hid ho7; clear hr7 ho7))
      go_roundg (gk - 1)
      case measure => omega
      case rel => exact ⟨i + 1, _, by go_num, by omega, HR7.out, by rw [HPUT.out, hdrop.out, VT.puts_cons], by have := VT.put_len (L := 32768) tk b' (d + 1) hrk.out; have := HBL.out; omega, HOWN.out.trans HO7.out⟩
    · obtain rfl : i = la.length := by omega
      go_wp2
      go_ret
      refine PutEnd.boxed (o := .cells #[.int .i64 1, .int .i64 na, .string sa, .slice ao la.length cap] 24) ⟨_, rfl, ?_, OW.out⟩ (fun k hk => HR.out.lt hk)
      rw [hpt.out, HPUT.out, List.drop_length, VT.puts_nil]
      exact HROW.out

include ih in
set_option maxRecDepth 100000 in
set_option maxHeartbeats 3200000 in
theorem bytes_2 (na : Int) (sa : ByteArray) (la : List VT) (w : World) (P : Nat → Prop) (d : Int) (N : Nat) (v : Value) (b : List UInt8) (ao : Option Addr) (cap : Nat) (hk : (VT.node 2 na sa la).sz ≤ k + 1) (hr : (VT.node 2 na sa la).right d = true)
    (a1 : la.length ≤ cap) (a2 : cap ≤ maxLen) (a7 : KidsAt w P la ao 0) (hP : ∀ x, P x → x < w.heap.size ∧ v.ownBlock ≠ some x) (hrow : ByteRow w N v b) (hN : N ≤ w.heap.size) (hb : b.length ≤ 32768) :
    Calls Tryd.prog 27 #[v, .agg #[.int .i64 2, .int .i64 na, .string sa, .slice ao la.length cap]] w (PutEnd w N v ((VT.node 2 na sa la).put 32768 b)) := by
  obtain ⟨hf, hrs', hd⟩ := VT.right_parts hr
  have hrs := Lib.hid hrs'
  have HR := Lib.hid hrow
  obtain ⟨ao0, cap0, rfl, hc0, hc1⟩ := hrow.form
  unfold maxLen at a2 hc1
  have hfp := fits_parts hf
  have HT := Lib.hid (topOf_len hf)
  have hpt : Hid ((VT.node 2 na sa la).put 32768 b = VT.puts 32768 la (b ++ num 2 ++ topOf 2 na sa la.length)) := by show _ = _; rw [VT.put_node, if_neg (by omega)]
  have HB1 : Hid (ByteRow (w.alloc (.cells #[.int .i64 2, .int .i64 na, .string sa, .slice ao la.length cap] 24)) N (.slice ao0 b.length cap0) b) := hrow.below ((Below.refl _ _).alloc (Nat.le_refl _) _)
  have hnk := Lib.hid (num_len (n := 2) (by omega) (by omega))
  have hnkp := Lib.hid (num_pos 2)
  have hnks : Hid ((bytes (num 2)).size = (num 2).length) := bytes_size _
  have HNK : Hid (∀ W, Calls Tryd.prog 48 #[.int .i64 2] W fun e w' => e = .returned (.string (bytes (num 2))) ∧ Below W.heap.size W w') := fun W => refNum_any 2 W (by omega) (by omega)
  have hvo : Hid ((Value.slice ao0 b.length cap0).ownBlock ≠ some w.heap.size) := fun e => by have := HR.out.lt e; omega
  clear hrow hr hrs'
  have hb2 : (b.length : Int) ≤ 32768 := by omega
  have hna := Lib.hid (str_len (s := sa.data.toList) (by simp; omega))
  have hsl : sa.data.toList.length = sa.size := by simp
  rw [hsl] at hna
  have hnas : Hid ((bytes (str sa.data.toList)).size = (str sa.data.toList).length) := bytes_size _
  have hnap : Hid (0 < (bytes (str sa.data.toList)).size) := by show _ < _; rw [bytes_size]; have := str_ne sa.data.toList; cases h : str sa.data.toList; exact absurd h this; simp
  have HNA : Hid (∀ W, Calls Tryd.prog 49 #[.string sa] W fun e w' => e = .returned (.string (bytes (str sa.data.toList))) ∧ Below W.heap.size W w') := fun W => refStr_any sa W (by omega)
  clear hsl
  go_enter Tryd.func27, Tryd.ntmps27
  go_wp2_with
    (first
     | ((go_at_call 48; refine (HNK.out _).mono ?_; rintro e w5 ⟨rfl, hb5⟩; have B5 := Lib.hid hb5; clear hb5 HNK))
     | ((go_at_call 49; refine (HNA.out _).mono ?_; rintro e w7 ⟨rfl, hb7⟩; have B7 := Lib.hid hb7; clear hb7))
     | (at_builtin; (refine wpList_apps (w := w5) rfl _ _ rfl (v := .slice ao0 b.length cap0) rfl (HB1.out.below B5.out) (s := bytes (num 2)) rfl hnkp.out (by have := B5.out.size; simp at this; omega) (by have := hnk.out; have := hnks.out; omega) ?_; intro v6 w6 hr6 ho6; rw [bytes_data] at hr6; have R6 := Lib.hid hr6; have O6 : Hid (OwnStep _ _ w6 v6) := (OwnStep.made _ B5.out).trans ho6; clear hr6 ho6; clear HB1; obtain ⟨c60, c61, c62, c63⟩ := box_cells O6.out hvo.out))
     | (at_builtin; (refine wpList_apps (w := w7) rfl _ _ rfl (v := v6) rfl (R6.out.below B7.out) (s := bytes (str sa.data.toList)) rfl hnap.out (by have := B7.out.size; have := O6.out.size; simp at this; omega) (by have := hnk.out; have := hna.out; have := hnas.out; rw [List.length_append]; omega) ?_; intro v8 w8 hr8 ho8; rw [bytes_data] at hr8; have R8 := Lib.hid hr8; have O8 : Hid (OwnStep _ _ w8 v8) := O6.out.trans ((OwnStep.made _ B7.out).trans ho8); clear hr8 ho8; obtain ⟨c80, c81, c82, c83⟩ := box_cells O8.out hvo.out)))
  have e : topOf 2 na sa la.length = str sa.data.toList := by simp [topOf]
  have hbz : Hid ((b ++ num 2 ++ topOf 2 na sa la.length).length ≤ 100000) := by have := hnk.out; have := HT.out; show _ ≤ 100000; rw [List.length_append, List.length_append]; omega
  have RZ : Hid (ByteRow w8 N v8 (b ++ num 2 ++ topOf 2 na sa la.length)) := by show ByteRow _ _ _ _; rw [e]; exact R8.out
  clear e
  have HL : Hid (PutLoop N w8 v8 32768 la (b ++ num 2 ++ topOf 2 na sa la.length) la.length v8 (.int .i64 0) w8) := ⟨0, (b ++ num 2 ++ topOf 2 na sa la.length), rfl, by omega, RZ.out, rfl, hbz.out, OwnStep.refl _ _⟩
  go_loopg [0, 5] la.length (fun k s0 s1 wr => PutLoop N w8 v8 32768 la (b ++ num 2 ++ topOf 2 na sa la.length) k s0 s1 wr)
  case atStart => exact HL.out
  case round =>
    clear HL
    obtain ⟨i, b', rfl, hik, hrow, hput, hbl, hown⟩ := hrel
    have HROW := Lib.hid hrow
    have HPUT := Lib.hid hput
    have HBL := Lib.hid hbl
    have HOWN := Lib.hid hown
    have OW : Hid (OwnStep (w.alloc (.cells #[.int .i64 2, .int .i64 na, .string sa, .slice ao la.length cap] 24)) (.slice ao0 b.length cap0) wr u0) := O8.out.trans hown
    clear hrow hput hbl hown
    obtain ⟨e0, e1, e2, e3⟩ := box_cells OW.out hvo.out
    by_cases hlt : i < la.length
    · obtain ⟨tk, htk⟩ : ∃ u, la[i]? = some u := ⟨_, List.getElem?_eq_getElem hlt⟩
      obtain ⟨bb, oo, _, _, _, _, rfl, hbb, _⟩ := a7.get htk
      obtain ⟨_, aok, capk, p0, p1, p2, p3, hvk⟩ := a7.cells htk
      unfold vval at hvk
      rw [Nat.zero_add] at p0 p1 p2 p3
      have hbb' := hP _ hbb
      have hblk : wr.heap[bb]? = w.heap[bb]? := (OW.out.block (by simp; omega) hbb'.2).trans (heap_alloc_old _ _ hbb'.1)
      have cc : ∀ j, wr.cell? ⟨bb, j, none⟩ = w.cell? ⟨bb, j, none⟩ := fun j => by simp [World.cell?, hblk]
      replace p0 := (cc _).trans p0
      replace p1 := (cc _).trans p1
      replace p2 := (cc _).trans p2
      replace p3 := (cc _).trans p3
      have hvk' : Hid (ValIs wr P tk (.agg #[.int .i64 tk.kind, .int .i64 tk.num, .string tk.text, .slice aok tk.kids.length capk])) := (hvk.below ((Below.refl _ _).alloc (Nat.le_refl _) _) (fun b hb => (hP b hb).1)).own OW.out (fun b hb => ⟨by have := (hP b hb).1; simp; omega, (hP b hb).2⟩)
      have HPB : Hid (∀ x, P x → x < wr.heap.size ∧ u0.ownBlock ≠ some x) := fun x hx => ⟨by have := (hP x hx).1; have := OW.out.size; simp at this; omega, OW.out.apart (by have := (hP x hx).1; simp; omega) (hP x hx).2⟩
      have hkid : Hid (tk.sz ≤ k) := by
        have h5 : tk.sz < (VT.node 2 na sa la).sz := VT.sz_kid (t := VT.node 2 na sa la) htk
        show tk.sz ≤ k; omega
      have hrk := Lib.hid (VT.rights_get hrs.out htk)
      have hdrop := Lib.hid (VT.drop_kid htk)
      have g1' : (i : Int) < (la.length : Int) := by omega
      have hi0 : (0 : Int) ≤ (i : Int) := by omega
      have hNr : Hid (N ≤ wr.heap.size) := by have := OW.out.size; simp at this; show N ≤ wr.heap.size; omega
      clear hvk htk cc hblk
      go_wp2_with ((go_at_call 27; refine (ih tk _ _ P (d + 1) N u0 b' hkid.out hrk.out hvk'.out HPB.out HROW.out hNr.out HBL.out).mono ?_; rintro e w7 ⟨v7, rfl, hr7, ho7⟩; have HR7 := Lib.hid hr7; have HO7 := Lib.hid ho7; clear hr7 ho7))
      go_roundg (gk - 1)
      case measure => omega
      case rel => exact ⟨i + 1, _, by go_num, by omega, HR7.out, by rw [HPUT.out, hdrop.out, VT.puts_cons], by have := VT.put_len (L := 32768) tk b' (d + 1) hrk.out; have := HBL.out; omega, HOWN.out.trans HO7.out⟩
    · obtain rfl : i = la.length := by omega
      go_wp2
      go_ret
      refine PutEnd.boxed (o := .cells #[.int .i64 2, .int .i64 na, .string sa, .slice ao la.length cap] 24) ⟨_, rfl, ?_, OW.out⟩ (fun k hk => HR.out.lt hk)
      rw [hpt.out, HPUT.out, List.drop_length, VT.puts_nil]
      exact HROW.out

include ih in
set_option maxRecDepth 100000 in
set_option maxHeartbeats 3200000 in
theorem bytes_3 (na : Int) (sa : ByteArray) (la : List VT) (w : World) (P : Nat → Prop) (d : Int) (N : Nat) (v : Value) (b : List UInt8) (ao : Option Addr) (cap : Nat) (hk : (VT.node 3 na sa la).sz ≤ k + 1) (hr : (VT.node 3 na sa la).right d = true)
    (a1 : la.length ≤ cap) (a2 : cap ≤ maxLen) (a7 : KidsAt w P la ao 0) (hP : ∀ x, P x → x < w.heap.size ∧ v.ownBlock ≠ some x) (hrow : ByteRow w N v b) (hN : N ≤ w.heap.size) (hb : b.length ≤ 32768) :
    Calls Tryd.prog 27 #[v, .agg #[.int .i64 3, .int .i64 na, .string sa, .slice ao la.length cap]] w (PutEnd w N v ((VT.node 3 na sa la).put 32768 b)) := by
  obtain ⟨hf, hrs', hd⟩ := VT.right_parts hr
  have hrs := Lib.hid hrs'
  have HR := Lib.hid hrow
  obtain ⟨ao0, cap0, rfl, hc0, hc1⟩ := hrow.form
  unfold maxLen at a2 hc1
  have hfp := fits_parts hf
  have HT := Lib.hid (topOf_len hf)
  have hpt : Hid ((VT.node 3 na sa la).put 32768 b = VT.puts 32768 la (b ++ num 3 ++ topOf 3 na sa la.length)) := by show _ = _; rw [VT.put_node, if_neg (by omega)]
  have HB1 : Hid (ByteRow (w.alloc (.cells #[.int .i64 3, .int .i64 na, .string sa, .slice ao la.length cap] 24)) N (.slice ao0 b.length cap0) b) := hrow.below ((Below.refl _ _).alloc (Nat.le_refl _) _)
  have hnk := Lib.hid (num_len (n := 3) (by omega) (by omega))
  have hnkp := Lib.hid (num_pos 3)
  have hnks : Hid ((bytes (num 3)).size = (num 3).length) := bytes_size _
  have HNK : Hid (∀ W, Calls Tryd.prog 48 #[.int .i64 3] W fun e w' => e = .returned (.string (bytes (num 3))) ∧ Below W.heap.size W w') := fun W => refNum_any 3 W (by omega) (by omega)
  have hvo : Hid ((Value.slice ao0 b.length cap0).ownBlock ≠ some w.heap.size) := fun e => by have := HR.out.lt e; omega
  clear hrow hr hrs'
  have hb2 : (b.length : Int) ≤ 32768 := by omega
  have hna := Lib.hid (num_len (n := na) (by omega) (by omega))
  have hnap := Lib.hid (num_pos na)
  have hnas : Hid ((bytes (num na)).size = (num na).length) := bytes_size _
  have HNA : Hid (∀ W, Calls Tryd.prog 48 #[.int .i64 na] W fun e w' => e = .returned (.string (bytes (num na))) ∧ Below W.heap.size W w') := fun W => refNum_any na W (by omega) (by omega)
  have hna2 := Lib.hid (num_len (n := (la.length : Int)) (by omega) (by omega))
  have hnap2 := Lib.hid (num_pos (la.length : Int))
  have hnas2 : Hid ((bytes (num (la.length : Int))).size = (num (la.length : Int)).length) := bytes_size _
  have HNA2 : Hid (∀ W, Calls Tryd.prog 48 #[.int .i64 (la.length : Int)] W fun e w' => e = .returned (.string (bytes (num (la.length : Int)))) ∧ Below W.heap.size W w') := fun W => refNum_any (la.length : Int) W (by omega) (by omega)
  have hno : ¬ 9223372036854775807 < (bytes (num na)).size + (bytes (num (la.length : Int))).size := by have := hna.out; have := hna2.out; have := hnas.out; have := hnas2.out; omega
  have hsum : Hid (bytes (num na ++ num (la.length : Int)) = bytes (num na) ++ bytes (num (la.length : Int))) := (bytes_append _ _).symm
  go_enter Tryd.func27, Tryd.ntmps27
  go_wp2_with
    (first
     | ((go_at_call 48; refine (HNK.out _).mono ?_; rintro e w5 ⟨rfl, hb5⟩; have B5 := Lib.hid hb5; clear hb5 HNK))
     | (at_builtin; (refine wpList_apps (w := w5) rfl _ _ rfl (v := .slice ao0 b.length cap0) rfl (HB1.out.below B5.out) (s := bytes (num 3)) rfl hnkp.out (by have := B5.out.size; simp at this; omega) (by have := hnk.out; have := hnks.out; omega) ?_; intro v6 w6 hr6 ho6; rw [bytes_data] at hr6; have R6 := Lib.hid hr6; have O6 : Hid (OwnStep _ _ w6 v6) := (OwnStep.made _ B5.out).trans ho6; clear hr6 ho6; clear HB1; obtain ⟨c60, c61, c62, c63⟩ := box_cells O6.out hvo.out)))
  have BC0 : Hid (Below w6.heap.size w6 w6.drew) := (Below.refl _ _).drew
  first | go_region_law (first
    | (refine step_callw (by rfl) 48 #[.int .i64 na] ?_ (HNA.out _) ?_; go_simp; rintro e w7 ⟨rfl, hb7⟩; refine ⟨.string (bytes (num na)), rfl, ?_⟩; have B7 := Lib.hid hb7; clear hb7 HNA; have BC7 : Hid (Below w6.heap.size w6 w7) := (by first | exact BC9.out.trans (B7.out.mono BC9.out.size) | exact BC0.out.trans (B7.out.mono BC0.out.size)); have O7 : Hid (OwnStep _ _ w7 v6) := O6.out.trans (OwnStep.made _ BC7.out); obtain ⟨c70, c71, c72, c73⟩ := box_cells O7.out hvo.out)
    | (refine step_callw (by rfl) 48 #[.int .i64 (la.length : Int)] ?_ (HNA2.out _) ?_; go_simp; rintro e w9 ⟨rfl, hb9⟩; refine ⟨.string (bytes (num (la.length : Int))), rfl, ?_⟩; have B9 := Lib.hid hb9; clear hb9 HNA2; have BC9 : Hid (Below w6.heap.size w6 w9) := (by first | exact BC7.out.trans (B9.out.mono BC7.out.size) | exact BC0.out.trans (B9.out.mono BC0.out.size)); have O9 : Hid (OwnStep _ _ w9 v6) := O6.out.trans (OwnStep.made _ BC9.out); obtain ⟨c90, c91, c92, c93⟩ := box_cells O9.out hvo.out)
    | (refine step_apps (w := w9) (by rfl) _ _ rfl (v := v6) rfl (R6.out.below BC9.out) (s := bytes (num na) ++ bytes (num (la.length : Int))) rfl (by rw [← hsum.out, bytes_size, List.length_append]; have := hnap.out; have := hnas.out; omega) (by have := O9.out.size; simp at this; omega) (by have := hnk.out; have := hna.out; have := hna2.out; rw [← hsum.out, bytes_size, List.length_append, List.length_append]; omega) ?_; intro v10 w10 hr10 ho10; rw [← hsum.out, bytes_data] at hr10; have R10 := Lib.hid hr10; have O10 : Hid (OwnStep _ _ w10 v10) := O9.out.trans ho10; clear hr10 ho10; obtain ⟨d0, d1, d2, d3⟩ := box_cells O10.out hvo.out)
    | (refine step_apps (w := w7) (by rfl) _ _ rfl (v := v6) rfl (R6.out.below BC7.out) (s := bytes (num na) ++ bytes (num (la.length : Int))) rfl (by rw [← hsum.out, bytes_size, List.length_append]; have := hnap.out; have := hnas.out; omega) (by have := O7.out.size; simp at this; omega) (by have := hnk.out; have := hna.out; have := hna2.out; rw [← hsum.out, bytes_size, List.length_append, List.length_append]; omega) ?_; intro v10 w10 hr10 ho10; rw [← hsum.out, bytes_data] at hr10; have R10 := Lib.hid hr10; have O10 : Hid (OwnStep _ _ w10 v10) := O7.out.trans ho10; clear hr10 ho10; obtain ⟨d0, d1, d2, d3⟩ := box_cells O10.out hvo.out)) | fail
  all_goals (have hbz : Hid ((b ++ num 3 ++ topOf 3 na sa la.length).length ≤ 100000) := by have := hnk.out; have := HT.out; show _ ≤ 100000; rw [List.length_append, List.length_append]; omega)
  all_goals (have RZ : Hid (ByteRow w10 N v10 (b ++ num 3 ++ topOf 3 na sa la.length)) := by have e : topOf 3 na sa la.length = num na ++ num (la.length : Int) := by { simp [topOf] }; show ByteRow _ _ _ _; rw [e]; exact R10.out)
  all_goals go_wp2
  all_goals
    have HL : Hid (PutLoop N w10 v10 32768 la (b ++ num 3 ++ topOf 3 na sa la.length) la.length v10 (.int .i64 0) w10) := ⟨0, (b ++ num 3 ++ topOf 3 na sa la.length), rfl, by omega, RZ.out, rfl, hbz.out, OwnStep.refl _ _⟩
    go_loopg [0, 5] la.length (fun k s0 s1 wr => PutLoop N w10 v10 32768 la (b ++ num 3 ++ topOf 3 na sa la.length) k s0 s1 wr)
    case atStart => exact HL.out
    case round =>
      clear HL
      obtain ⟨i, b', rfl, hik, hrow, hput, hbl, hown⟩ := hrel
      have HROW := Lib.hid hrow
      have HPUT := Lib.hid hput
      have HBL := Lib.hid hbl
      have HOWN := Lib.hid hown
      have OW : Hid (OwnStep (w.alloc (.cells #[.int .i64 3, .int .i64 na, .string sa, .slice ao la.length cap] 24)) (.slice ao0 b.length cap0) wr u0) := O10.out.trans hown
      clear hrow hput hbl hown
      obtain ⟨e0, e1, e2, e3⟩ := box_cells OW.out hvo.out
      by_cases hlt : i < la.length
      · obtain ⟨tk, htk⟩ : ∃ u, la[i]? = some u := ⟨_, List.getElem?_eq_getElem hlt⟩
        obtain ⟨bb, oo, _, _, _, _, rfl, hbb, _⟩ := a7.get htk
        obtain ⟨_, aok, capk, p0, p1, p2, p3, hvk⟩ := a7.cells htk
        unfold vval at hvk
        rw [Nat.zero_add] at p0 p1 p2 p3
        have hbb' := hP _ hbb
        have hblk : wr.heap[bb]? = w.heap[bb]? := (OW.out.block (by simp; omega) hbb'.2).trans (heap_alloc_old _ _ hbb'.1)
        have cc : ∀ j, wr.cell? ⟨bb, j, none⟩ = w.cell? ⟨bb, j, none⟩ := fun j => by simp [World.cell?, hblk]
        replace p0 := (cc _).trans p0
        replace p1 := (cc _).trans p1
        replace p2 := (cc _).trans p2
        replace p3 := (cc _).trans p3
        have hvk' : Hid (ValIs wr P tk (.agg #[.int .i64 tk.kind, .int .i64 tk.num, .string tk.text, .slice aok tk.kids.length capk])) := (hvk.below ((Below.refl _ _).alloc (Nat.le_refl _) _) (fun b hb => (hP b hb).1)).own OW.out (fun b hb => ⟨by have := (hP b hb).1; simp; omega, (hP b hb).2⟩)
        have HPB : Hid (∀ x, P x → x < wr.heap.size ∧ u0.ownBlock ≠ some x) := fun x hx => ⟨by have := (hP x hx).1; have := OW.out.size; simp at this; omega, OW.out.apart (by have := (hP x hx).1; simp; omega) (hP x hx).2⟩
        have hkid : Hid (tk.sz ≤ k) := by
          have h5 : tk.sz < (VT.node 3 na sa la).sz := VT.sz_kid (t := VT.node 3 na sa la) htk
          show tk.sz ≤ k; omega
        have hrk := Lib.hid (VT.rights_get hrs.out htk)
        have hdrop := Lib.hid (VT.drop_kid htk)
        have g1' : (i : Int) < (la.length : Int) := by omega
        have hi0 : (0 : Int) ≤ (i : Int) := by omega
        have hNr : Hid (N ≤ wr.heap.size) := by have := OW.out.size; simp at this; show N ≤ wr.heap.size; omega
        clear hvk htk cc hblk
        go_wp2_with ((go_at_call 27; refine (ih tk _ _ P (d + 1) N u0 b' hkid.out hrk.out hvk'.out HPB.out HROW.out hNr.out HBL.out).mono ?_; rintro e w7 ⟨v7, rfl, hr7, ho7⟩; have HR7 := Lib.hid hr7; have HO7 := Lib.hid ho7; clear hr7 ho7))
        go_roundg (gk - 1)
        case measure => omega
        case rel => exact ⟨i + 1, _, by go_num, by omega, HR7.out, by rw [HPUT.out, hdrop.out, VT.puts_cons], by have := VT.put_len (L := 32768) tk b' (d + 1) hrk.out; have := HBL.out; omega, HOWN.out.trans HO7.out⟩
      · obtain rfl : i = la.length := by omega
        go_wp2
        go_ret
        refine PutEnd.boxed (o := .cells #[.int .i64 3, .int .i64 na, .string sa, .slice ao la.length cap] 24) ⟨_, rfl, ?_, OW.out⟩ (fun k hk => HR.out.lt hk)
        rw [hpt.out, HPUT.out, List.drop_length, VT.puts_nil]
        exact HROW.out
end
end Go.Proofs.YtofmbpmmgpbdbaaDoor
