/- The program's put, of a constructor. -/
import Derived.Test.YtofmbpmmgpbdbaaDoorPut
import Derived.Test.YtofmbpmmgpbdbaaDoorStep
import Derived.Deep.RegionLaw
import Derived.Outline
namespace Go.Proofs.YtofmbpmmgpbdbaaDoor
open Go.RowKit Go.Maps Wr
set_option linter.unusedVariables false

/-- A row of bytes while another one grows. -/
theorem ByteRow.aside {w w' : World} {M : Nat} {v v' x : Value} {l : List UInt8} (h : ByteRow w M x l) (hs : OwnStep w v w' v') (hx : ∀ k, x.ownBlock = some k → v.ownBlock ≠ some k) : ByteRow w' M x l :=
  ⟨h.1.chg hs.1 (fun k hk => by simpa using hx k hk), h.2⟩
theorem ByteRow.from {w : World} {M M' : Nat} {x : Value} {l : List UInt8} (h : ByteRow w M x l) (hM : M' ≤ M) : ByteRow w M' x l := ⟨h.1, fun k hk => Nat.le_trans hM (h.2 k hk)⟩

section
variable (L : Nat) (k : Nat) (ih : ∀ (t : VT) (vt : Value) (w : World) (P : Nat → Prop) (d : Int) (N : Nat) (v : Value) (b : List UInt8), t.sz ≤ k → t.right d = true → ValIs w P t vt → (∀ x, P x → x < w.heap.size ∧ v.ownBlock ≠ some x) → ByteRow w N v b → N ≤ w.heap.size → b.length ≤ 100000 →
    Calls Tryd.prog 29 #[v, vt] w (PutEnd w N v (t.put 16384 b)))
include ih in
set_option maxRecDepth 100000 in
set_option maxHeartbeats 3200000 in
theorem put_3 (na : Int) (sa : ByteArray) (la : List VT) (w : World) (P : Nat → Prop) (d : Int) (N : Nat) (v : Value) (b : List UInt8) (ao : Option Addr) (cap : Nat) (hk : (VT.node 3 na sa la).sz ≤ k + 1) (hr : (VT.node 3 na sa la).right d = true)
    (a1 : la.length ≤ cap) (a2 : cap ≤ maxLen) (a7 : KidsAt w P la ao 0) (hP : ∀ x, P x → x < w.heap.size ∧ v.ownBlock ≠ some x) (hrow : ByteRow w N v b) (hN : N ≤ w.heap.size) (hb : b.length ≤ 16384) :
    Calls Tryd.prog 29 #[v, .agg #[.int .i64 3, .int .i64 na, .string sa, .slice ao la.length cap]] w (PutEnd w N v ((VT.node 3 na sa la).put 16384 b)) := by
  obtain ⟨hf, hrs', hd⟩ := VT.right_parts hr
  have hrs := Lib.hid hrs'
  have HR := Lib.hid hrow
  obtain ⟨ao0, cap0, rfl, hc0, hc1⟩ := hrow.form
  unfold maxLen at a2 hc1
  have hfp := fits_parts hf
  have HT := Lib.hid (topOf_len hf)
  have hpt : Hid ((VT.node 3 na sa la).put 16384 b = VT.puts 16384 la (b ++ num 3 ++ topOf 3 na sa la.length)) := by show _ = _; rw [VT.put_node, if_neg (by omega)]
  have HB1 : Hid (ByteRow (w.alloc (.cells #[.int .i64 3, .int .i64 na, .string sa, .slice ao la.length cap] 24)) N (.slice ao0 b.length cap0) b) := hrow.below ((Below.refl _ _).alloc (Nat.le_refl _) _)
  have hnk := Lib.hid (num_len (n := 3) (by omega) (by omega))
  have HNK : Hid (∀ W, Calls Tryd.prog 53 #[.int .i64 3] W (RowEnd W W.heap.size (num 3))) := fun W => wireNum_any 3 W (by omega) (by omega)
  have hvo : Hid ((Value.slice ao0 b.length cap0).ownBlock ≠ some w.heap.size) := fun e => by have := HR.out.lt e; omega
  clear hrow hr hrs'
  have hb2 : (b.length : Int) ≤ 16384 := by omega
  have hna := Lib.hid (num_len (n := na) (by omega) (by omega))
  have HNA : Hid (∀ W, Calls Tryd.prog 53 #[.int .i64 na] W (RowEnd W W.heap.size (num na))) := fun W => wireNum_any na W (by omega) (by omega)
  have hnl := Lib.hid (num_len (n := (la.length : Int)) (by omega) (by omega))
  have HNL : Hid (∀ W, Calls Tryd.prog 53 #[.int .i64 (la.length : Int)] W (RowEnd W W.heap.size (num (la.length : Int)))) := fun W => wireNum_any (la.length : Int) W (by omega) (by omega)
  go_enter Tryd.func29, Tryd.ntmps29
  go_wp2_with
    (first
     | ((go_at_call 53; refine (HNK.out _).mono ?_; rintro e w5 ⟨v5, rfl, hr5, hb5⟩; have R5 := Lib.hid hr5; have B5 := Lib.hid hb5; clear hr5 hb5 HNK))
     | (at_builtin; (refine wpList_appb (w := w5) rfl _ _ rfl (v := .slice ao0 b.length cap0) (vx := v5) rfl (HB1.out.below B5.out) rfl R5.out (num_ne _) (by have := B5.out.size; simp at this; omega) (by have := hnk.out; omega) ?_; intro v6 w6 hr6 ho6; have R6 := Lib.hid hr6; have O6 : Hid (OwnStep _ _ w6 v6) := (OwnStep.made _ B5.out).trans ho6; clear hr6 ho6; clear HB1; obtain ⟨c60, c61, c62, c63⟩ := box_cells O6.out hvo.out)))
  have BC0 : Hid (Below w6.heap.size w6 w6.drew) := (Below.refl _ _).drew
  go_region_law (first
    | (refine step_callw (by rfl) 53 #[.int .i64 na] ?_ (HNA.out _) ?_; go_simp; rintro e w7 ⟨v7, rfl, hr7, hb7⟩; refine ⟨v7, rfl, ?_⟩; have R7 := Lib.hid hr7; have B7 := Lib.hid hb7; clear hr7 hb7 HNA; have BC7 : Hid (Below w6.heap.size w6 w7) := (by first | exact BC9.out.trans (B7.out.mono BC9.out.size) | exact BC0.out.trans (B7.out.mono BC0.out.size)); have O7 : Hid (OwnStep _ _ w7 v6) := O6.out.trans (OwnStep.made _ BC7.out); (try have R9' := Lib.hid (R9.out.below B7.out)); obtain ⟨c70, c71, c72, c73⟩ := box_cells O7.out hvo.out)
    | (refine step_callw (by rfl) 53 #[.int .i64 (la.length : Int)] ?_ (HNL.out _) ?_; go_simp; rintro e w9 ⟨v9, rfl, hr9, hb9⟩; refine ⟨v9, rfl, ?_⟩; have R9 := Lib.hid hr9; have B9 := Lib.hid hb9; clear hr9 hb9 HNL; (first
        | (have R8' := Lib.hid (R8.out.below B9.out); have O9 : Hid (OwnStep _ _ w9 v8) := O8.out.trans (OwnStep.made _ B9.out))
        | (have BC9 : Hid (Below w6.heap.size w6 w9) := (by first | exact BC7.out.trans (B9.out.mono BC7.out.size) | exact BC0.out.trans (B9.out.mono BC0.out.size)); have O9 : Hid (OwnStep _ _ w9 v6) := O6.out.trans (OwnStep.made _ BC9.out); (try have R7' := Lib.hid (R7.out.below B9.out)))); obtain ⟨c90, c91, c92, c93⟩ := box_cells O9.out hvo.out)
    | (refine step_appb (w := w7) (by rfl) _ _ rfl (v := v6) (vx := v7) rfl (R6.out.below BC7.out) rfl R7.out (num_ne _) (by have := BC7.out.size; have := O6.out.size; simp at this; omega) (by have := hnk.out; have := hna.out; rw [List.length_append]; omega) ?_; intro v8 w8 hr8 ho8; have R8 := Lib.hid hr8; have OA := Lib.hid ho8; have O8 : Hid (OwnStep _ _ w8 v8) := O7.out.trans ho8; clear hr8 ho8; (try have R9a := Lib.hid (R9'.out.aside OA.out (fun k hk e => by have := R9.out.2 k hk; have := R6.out.lt e; have := BC0.out.size; omega))); obtain ⟨c80, c81, c82, c83⟩ := box_cells O8.out hvo.out)
    | (refine step_appb (w := w9) (by rfl) _ _ rfl (v := v6) (vx := v7) rfl (R6.out.below BC9.out) rfl R7'.out (num_ne _) (by have := BC9.out.size; have := O6.out.size; simp at this; omega) (by have := hnk.out; have := hna.out; rw [List.length_append]; omega) ?_; intro v8 w8 hr8 ho8; have R8 := Lib.hid hr8; have OA := Lib.hid ho8; have O8 : Hid (OwnStep _ _ w8 v8) := O9.out.trans ho8; clear hr8 ho8; have R9a := Lib.hid (R9.out.aside OA.out (fun k hk e => by have := R9.out.2 k hk; have := R6.out.lt e; have := BC7.out.size; omega)); obtain ⟨c80, c81, c82, c83⟩ := box_cells O8.out hvo.out)
    | (refine step_appb (w := w8) (by rfl) _ _ rfl (v := v8) (vx := v9) rfl R8.out rfl R9a.out (num_ne _) (by have := O8.out.size; simp at this; omega) (by have := hnk.out; have := hna.out; have := hnl.out; rw [List.length_append, List.length_append]; omega) ?_; intro v10 w10 hr10 ho10; have R10 := Lib.hid hr10; have O10 : Hid (OwnStep _ _ w10 v10) := O8.out.trans ho10; clear hr10 ho10; obtain ⟨d0, d1, d2, d3⟩ := box_cells O10.out hvo.out)
    | (refine step_appb (w := w9) (by rfl) _ _ rfl (v := v8) (vx := v9) rfl R8'.out rfl R9.out (num_ne _) (by have := O9.out.size; simp at this; omega) (by have := hnk.out; have := hna.out; have := hnl.out; rw [List.length_append, List.length_append]; omega) ?_; intro v10 w10 hr10 ho10; have R10 := Lib.hid hr10; have O10 : Hid (OwnStep _ _ w10 v10) := O9.out.trans ho10; clear hr10 ho10; obtain ⟨d0, d1, d2, d3⟩ := box_cells O10.out hvo.out))
  all_goals (have hbz : Hid ((b ++ num 3 ++ topOf 3 na sa la.length).length ≤ 100000) := by have := hnk.out; have := HT.out; show _ ≤ 100000; rw [List.length_append, List.length_append]; omega)
  all_goals (have RZ : Hid (ByteRow w10 N v10 (b ++ num 3 ++ topOf 3 na sa la.length)) := by have e : topOf 3 na sa la.length = num na ++ num (la.length : Int) := by { simp [topOf] }; show ByteRow _ _ _ _; rw [e, ← List.append_assoc]; exact R10.out)
  all_goals go_wp2
  all_goals
    have hbox : Hid (w10.heap[w.heap.size]? = some (.cells #[.int .i64 3, .int .i64 na, .string sa, .slice ao la.length cap] 24 (0, 0))) := (O10.out.block (by simp) (fun e => by have := HR.out.lt e; omega)).trans (heap_alloc_new w _)
    have HL : Hid (PutLoop N w10 v10 16384 la (b ++ num 3 ++ topOf 3 na sa la.length) la.length v10 (.int .i64 0) w10) := ⟨0, (b ++ num 3 ++ topOf 3 na sa la.length), rfl, by omega, RZ.out, rfl, hbz.out, OwnStep.refl _ _⟩
    go_loopg [0, 57] la.length (fun k s0 s1 wr => PutLoop N w10 v10 16384 la (b ++ num 3 ++ topOf 3 na sa la.length) k s0 s1 wr)
    case atStart => exact HL.out
    case round =>
      clear HL
      obtain ⟨i, b', rfl, hik, hrow, hput, hbl, hown⟩ := hrel
      have HROW := Lib.hid hrow
      have HPUT := Lib.hid hput
      have HBL := Lib.hid hbl
      have HOWN := Lib.hid hown
      have OW : Hid (OwnStep (w.alloc (.cells #[.int .i64 3, .int .i64 na, .string sa, .slice ao la.length cap] 24)) (.slice ao0 b.length cap0) wr u0) := O10.out.trans hown
      clear hrow hput hbl hown
      by_cases hlt : i < la.length
      · obtain ⟨tk, htk⟩ : ∃ u, la[i]? = some u := ⟨_, List.getElem?_eq_getElem hlt⟩
        obtain ⟨bb, oo, _, _, _, _, rfl, hbb, _⟩ := a7.get htk
        obtain ⟨_, aok, capk, p0, p1, p2, p3, hvk⟩ := a7.cells htk
        unfold vval at hvk
        rw [Nat.zero_add] at p0 p1 p2 p3
        have hbb' := hP _ hbb
        have hblk : wr.heap[bb]? = w.heap[bb]? := (OW.out.block (by simp; omega) hbb'.2).trans (heap_alloc_old _ _ hbb'.1)
        have cc : ∀ j, wr.cell? ⟨bb, j, none⟩ = w.cell? ⟨bb, j, none⟩ := fun j => by simp [World.cell?, hblk]
        replace p0 := (cc _).trans p0
        replace p1 := (cc _).trans p1
        replace p2 := (cc _).trans p2
        replace p3 := (cc _).trans p3
        have hvk' : Hid (ValIs wr P tk (.agg #[.int .i64 tk.kind, .int .i64 tk.num, .string tk.text, .slice aok tk.kids.length capk])) := (hvk.below ((Below.refl _ _).alloc (Nat.le_refl _) _) (fun b hb => (hP b hb).1)).own OW.out (fun b hb => ⟨by have := (hP b hb).1; simp; omega, (hP b hb).2⟩)
        have HPB : Hid (∀ x, P x → x < wr.heap.size ∧ u0.ownBlock ≠ some x) := fun x hx => ⟨by have := (hP x hx).1; have := OW.out.size; simp at this; omega, OW.out.apart (by have := (hP x hx).1; simp; omega) (hP x hx).2⟩
        have hkid : Hid (tk.sz ≤ k) := by
          have h5 : tk.sz < (VT.node 3 na sa la).sz := VT.sz_kid (t := VT.node 3 na sa la) htk
          show tk.sz ≤ k; omega
        have hrk := Lib.hid (VT.rights_get hrs.out htk)
        have hdrop := Lib.hid (VT.drop_kid htk)
        have g1' : (i : Int) < (la.length : Int) := by omega
        have hi0 : (0 : Int) ≤ (i : Int) := by omega
        have hNr : Hid (N ≤ wr.heap.size) := by have := OW.out.size; simp at this; show N ≤ wr.heap.size; omega
        clear hvk htk cc hblk
        go_wp2_with ((go_at_call 29; refine (ih tk _ _ P (d + 1) N u0 b' hkid.out hrk.out (hvk'.out.below ((Below.refl _ _).alloc (Nat.le_refl _) _) (fun b hb => (HPB.out b hb).1)) (fun x hx => ⟨by have := (HPB.out x hx).1; simp; omega, (HPB.out x hx).2⟩) (HROW.out.below ((Below.refl _ _).alloc (Nat.le_refl _) _)) (by have := hNr.out; simp; omega) HBL.out).mono ?_; rintro e w7 ⟨v7, rfl, hr7, ho7⟩; have HR7 := Lib.hid hr7; have HO7 := Lib.hid ho7; clear hr7 ho7))
        go_roundg (gk - 1)
        case measure => omega
        case rel => exact ⟨i + 1, _, by go_num, by omega, HR7.out, by rw [HPUT.out, hdrop.out, VT.puts_cons], by have := VT.put_len (L := 16384) tk b' (d + 1) hrk.out; have := HBL.out; omega, HOWN.out.trans ((OwnStep.made u0 ((Below.refl _ _).alloc (Nat.le_refl _) _)).trans HO7.out)⟩
      · obtain rfl : i = la.length := by omega
        go_wp2
        go_ret
        refine PutEnd.boxed (o := .cells #[.int .i64 3, .int .i64 na, .string sa, .slice ao la.length cap] 24) ⟨_, rfl, ?_, OW.out⟩ (fun k hk => HR.out.lt hk)
        rw [hpt.out, HPUT.out, List.drop_length, VT.puts_nil]
        exact HROW.out
end
end Go.Proofs.YtofmbpmmgpbdbaaDoor
