/- Texts of the proof, in build order: Put3, Put4, ValFits, ValRight, Own2, BytesR, Encode, Kids. -/
import Derived.Test.YtcpgbekcbaelpaaGreatDoorE13
import Derived.Deep.RegionLaw
import Derived.Outline
import Derived.Deep.RegionHeld3
import Derived.Test.YtcpgbekcbaelpaaGreatDoorE12
import Derived.Test.YtcpgbekcbaelpaaGreatDoorE10
set_option linter.unusedVariables false
set_option linter.unusedSimpArgs false
set_option linter.unusedSectionVars false
/- The program's put, of a constructor. -/
namespace Go.Proofs.YtcpgbekcbaelpaaGreatDoor
open Go.RowKit Go.Maps Wr
set_option linter.unusedVariables false

theorem ByteRow.aside {w w' : World} {M : Nat} {v v' x : Value} {l : List UInt8} (h : ByteRow w M x l) (hs : OwnStep w v w' v') (hx : ∀ k, x.ownBlock = some k → v.ownBlock ≠ some k) : ByteRow w' M x l :=
  ⟨h.1.chg hs.1 (fun k hk => by simpa using hx k hk), h.2⟩
theorem ByteRow.from {w : World} {M M' : Nat} {x : Value} {l : List UInt8} (h : ByteRow w M x l) (hM : M' ≤ M) : ByteRow w M' x l := ⟨h.1, fun k hk => Nat.le_trans hM (h.2 k hk)⟩

section
variable (L : Nat) (k : Nat) (ih : ∀ (t : VT) (vt : Value) (w : World) (P : Nat → Prop) (d : Int) (N : Nat) (v : Value) (b : List UInt8), t.sz ≤ k → t.right d = true → ValIs w P t vt → (∀ x, P x → x < w.heap.size ∧ v.ownBlock ≠ some x) → ByteRow w N v b → N ≤ w.heap.size → b.length ≤ 100000 →
    Calls Tryz.prog 141 #[v, vt] w (PutEnd w N v (t.put 16384 b)))
include ih in
set_option maxRecDepth 100000 in
set_option maxHeartbeats 3200000 in
theorem put_3 (na : Int) (sa : ByteArray) (la : List VT) (w : World) (P : Nat → Prop) (d : Int) (N : Nat) (v : Value) (b : List UInt8) (ao : Option Addr) (cap : Nat) (hk : (VT.node 3 na sa la).sz ≤ k + 1) (hr : (VT.node 3 na sa la).right d = true)
    (a1 : la.length ≤ cap) (a2 : cap ≤ maxLen) (a7 : KidsAt w P la ao 0) (hP : ∀ x, P x → x < w.heap.size ∧ v.ownBlock ≠ some x) (hrow : ByteRow w N v b) (hN : N ≤ w.heap.size) (hb : b.length ≤ 16384) :
    Calls Tryz.prog 141 #[v, .agg #[.int .i64 3, .int .i64 na, .string sa, .slice ao la.length cap]] w (PutEnd w N v ((VT.node 3 na sa la).put 16384 b)) := by
  obtain ⟨hf, hrs', hd⟩ := VT.right_parts hr
  have hrs := Lib.hid hrs'
  have HR := Lib.hid hrow
  obtain ⟨ao0, cap0, rfl, hc0, hc1⟩ := hrow.form
  unfold maxLen at a2 hc1
  have hfp := fits_parts hf
  have HT := Lib.hid (topOf_len hf)
  have hpt : Hid ((VT.node 3 na sa la).put 16384 b = VT.puts 16384 la (b ++ num 3 ++ topOf 3 na sa la.length)) := by show _ = _; rw [VT.put_node, if_neg (by omega)]
  have HB1 : Hid (ByteRow (w.alloc (.cells #[.int .i64 3, .int .i64 na, .string sa, .slice ao la.length cap] 33)) N (.slice ao0 b.length cap0) b) := hrow.below ((Below.refl _ _).alloc (Nat.le_refl _) _)
  have hnk := Lib.hid (num_len (n := 3) (by omega) (by omega))
  have HNK : Hid (∀ W, Calls Tryz.prog 90 #[.int .i64 3] W (RowEnd W W.heap.size (num 3))) := fun W => wireNum_any 3 W (by omega) (by omega)
  have hvo : Hid ((Value.slice ao0 b.length cap0).ownBlock ≠ some w.heap.size) := fun e => by have := HR.out.lt e; omega
  clear hrow hr hrs'
  have hb2 : (b.length : Int) ≤ 16384 := by omega
  have hna := Lib.hid (num_len (n := na) (by omega) (by omega))
  have HNA : Hid (∀ W, Calls Tryz.prog 90 #[.int .i64 na] W (RowEnd W W.heap.size (num na))) := fun W => wireNum_any na W (by omega) (by omega)
  have hnl := Lib.hid (num_len (n := (la.length : Int)) (by omega) (by omega))
  have HNL : Hid (∀ W, Calls Tryz.prog 90 #[.int .i64 (la.length : Int)] W (RowEnd W W.heap.size (num (la.length : Int)))) := fun W => wireNum_any (la.length : Int) W (by omega) (by omega)
  go_enter Tryz.func141, Tryz.ntmps141
  go_wp2_with
    (first
     | ((go_at_call 90; refine (HNK.out _).mono ?_; rintro e w5 ⟨v5, rfl, hr5, hb5⟩; have R5 := Lib.hid hr5; have B5 := Lib.hid hb5; clear hr5 hb5 HNK))
     | (at_builtin; (refine wpList_appb (w := w5) rfl _ _ rfl (v := .slice ao0 b.length cap0) (vx := v5) rfl (HB1.out.below B5.out) rfl R5.out (num_ne _) (by have := B5.out.size; simp at this; omega) (by have := hnk.out; omega) ?_; intro v6 w6 hr6 ho6; have R6 := Lib.hid hr6; have O6 : Hid (OwnStep _ _ w6 v6) := (OwnStep.made _ B5.out).trans ho6; clear hr6 ho6; clear HB1; obtain ⟨c60, c61, c62, c63⟩ := box_cells O6.out hvo.out)))
  have BC0 : Hid (Below w6.heap.size w6 w6.drew) := (Below.refl _ _).drew
  go_region_law (first
    | (refine step_callw (by rfl) 90 #[.int .i64 na] ?_ (HNA.out _) ?_; go_simp; rintro e w7 ⟨v7, rfl, hr7, hb7⟩; refine ⟨v7, rfl, ?_⟩; have R7 := Lib.hid hr7; have B7 := Lib.hid hb7; clear hr7 hb7 HNA; have BC7 : Hid (Below w6.heap.size w6 w7) := (by first | exact BC9.out.trans (B7.out.mono BC9.out.size) | exact BC0.out.trans (B7.out.mono BC0.out.size)); have O7 : Hid (OwnStep _ _ w7 v6) := O6.out.trans (OwnStep.made _ BC7.out); (try have R9' := Lib.hid (R9.out.below B7.out)); obtain ⟨c70, c71, c72, c73⟩ := box_cells O7.out hvo.out)
    | (refine step_callw (by rfl) 90 #[.int .i64 (la.length : Int)] ?_ (HNL.out _) ?_; go_simp; rintro e w9 ⟨v9, rfl, hr9, hb9⟩; refine ⟨v9, rfl, ?_⟩; have R9 := Lib.hid hr9; have B9 := Lib.hid hb9; clear hr9 hb9 HNL; (first
        | (have R8' := Lib.hid (R8.out.below B9.out); have O9 : Hid (OwnStep _ _ w9 v8) := O8.out.trans (OwnStep.made _ B9.out))
        | (have BC9 : Hid (Below w6.heap.size w6 w9) := (by first | exact BC7.out.trans (B9.out.mono BC7.out.size) | exact BC0.out.trans (B9.out.mono BC0.out.size)); have O9 : Hid (OwnStep _ _ w9 v6) := O6.out.trans (OwnStep.made _ BC9.out); (try have R7' := Lib.hid (R7.out.below B9.out)))); obtain ⟨c90, c91, c92, c93⟩ := box_cells O9.out hvo.out)
    | (refine step_appb (w := w7) (by rfl) _ _ rfl (v := v6) (vx := v7) rfl (R6.out.below BC7.out) rfl R7.out (num_ne _) (by have := BC7.out.size; have := O6.out.size; simp at this; omega) (by have := hnk.out; have := hna.out; rw [List.length_append]; omega) ?_; intro v8 w8 hr8 ho8; have R8 := Lib.hid hr8; have OA := Lib.hid ho8; have O8 : Hid (OwnStep _ _ w8 v8) := O7.out.trans ho8; clear hr8 ho8; (try have R9a := Lib.hid (R9'.out.aside OA.out (fun k hk e => by have := R9.out.2 k hk; have := R6.out.lt e; have := BC0.out.size; omega))); obtain ⟨c80, c81, c82, c83⟩ := box_cells O8.out hvo.out)
    | (refine step_appb (w := w9) (by rfl) _ _ rfl (v := v6) (vx := v7) rfl (R6.out.below BC9.out) rfl R7'.out (num_ne _) (by have := BC9.out.size; have := O6.out.size; simp at this; omega) (by have := hnk.out; have := hna.out; rw [List.length_append]; omega) ?_; intro v8 w8 hr8 ho8; have R8 := Lib.hid hr8; have OA := Lib.hid ho8; have O8 : Hid (OwnStep _ _ w8 v8) := O9.out.trans ho8; clear hr8 ho8; have R9a := Lib.hid (R9.out.aside OA.out (fun k hk e => by have := R9.out.2 k hk; have := R6.out.lt e; have := BC7.out.size; omega)); obtain ⟨c80, c81, c82, c83⟩ := box_cells O8.out hvo.out)
    | (refine step_appb (w := w8) (by rfl) _ _ rfl (v := v8) (vx := v9) rfl R8.out rfl R9a.out (num_ne _) (by have := O8.out.size; simp at this; omega) (by have := hnk.out; have := hna.out; have := hnl.out; rw [List.length_append, List.length_append]; omega) ?_; intro v10 w10 hr10 ho10; have R10 := Lib.hid hr10; have O10 : Hid (OwnStep _ _ w10 v10) := O8.out.trans ho10; clear hr10 ho10; obtain ⟨d0, d1, d2, d3⟩ := box_cells O10.out hvo.out)
    | (refine step_appb (w := w9) (by rfl) _ _ rfl (v := v8) (vx := v9) rfl R8'.out rfl R9.out (num_ne _) (by have := O9.out.size; simp at this; omega) (by have := hnk.out; have := hna.out; have := hnl.out; rw [List.length_append, List.length_append]; omega) ?_; intro v10 w10 hr10 ho10; have R10 := Lib.hid hr10; have O10 : Hid (OwnStep _ _ w10 v10) := O9.out.trans ho10; clear hr10 ho10; obtain ⟨d0, d1, d2, d3⟩ := box_cells O10.out hvo.out))
  all_goals (have hbz : Hid ((b ++ num 3 ++ topOf 3 na sa la.length).length ≤ 100000) := by have := hnk.out; have := HT.out; show _ ≤ 100000; rw [List.length_append, List.length_append]; omega)
  all_goals (have RZ : Hid (ByteRow w10 N v10 (b ++ num 3 ++ topOf 3 na sa la.length)) := by have e : topOf 3 na sa la.length = num na ++ num (la.length : Int) := by { simp [topOf] }; show ByteRow _ _ _ _; rw [e, ← List.append_assoc]; exact R10.out)
  all_goals go_wp2
  all_goals
    have hbox : Hid (w10.heap[w.heap.size]? = some (.cells #[.int .i64 3, .int .i64 na, .string sa, .slice ao la.length cap] 33 (0, 0))) := (O10.out.block (by simp) (fun e => by have := HR.out.lt e; omega)).trans (heap_alloc_new w _)
    have HL : Hid (PutLoop N w10 v10 16384 la (b ++ num 3 ++ topOf 3 na sa la.length) la.length v10 (.int .i64 0) w10) := ⟨0, (b ++ num 3 ++ topOf 3 na sa la.length), rfl, by omega, RZ.out, rfl, hbz.out, OwnStep.refl _ _⟩
    go_loopg [0, 57] la.length (fun k s0 s1 wr => PutLoop N w10 v10 16384 la (b ++ num 3 ++ topOf 3 na sa la.length) k s0 s1 wr)
    case atStart => exact HL.out
    case round =>
      clear HL
      obtain ⟨i, b', rfl, hik, hrow, hput, hbl, hown⟩ := hrel
      have HROW := Lib.hid hrow
      have HPUT := Lib.hid hput
      have HBL := Lib.hid hbl
      have HOWN := Lib.hid hown
      have OW : Hid (OwnStep (w.alloc (.cells #[.int .i64 3, .int .i64 na, .string sa, .slice ao la.length cap] 33)) (.slice ao0 b.length cap0) wr u0) := O10.out.trans hown
      clear hrow hput hbl hown
      by_cases hlt : i < la.length
      · obtain ⟨tk, htk⟩ : ∃ u, la[i]? = some u := ⟨_, List.getElem?_eq_getElem hlt⟩
        obtain ⟨bb, oo, _, _, _, _, rfl, hbb, _⟩ := a7.get htk
        obtain ⟨_, aok, capk, p0, p1, p2, p3, hvk⟩ := a7.cells htk
        unfold vval at hvk
        rw [Nat.zero_add] at p0 p1 p2 p3
        have hbb' := hP _ hbb
        have hblk : wr.heap[bb]? = w.heap[bb]? := (OW.out.block (by simp; omega) hbb'.2).trans (heap_alloc_old _ _ hbb'.1)
        have cc : ∀ j, wr.cell? ⟨bb, j, none⟩ = w.cell? ⟨bb, j, none⟩ := fun j => by simp [World.cell?, hblk]
        replace p0 := (cc _).trans p0
        replace p1 := (cc _).trans p1
        replace p2 := (cc _).trans p2
        replace p3 := (cc _).trans p3
        have hvk' : Hid (ValIs wr P tk (.agg #[.int .i64 tk.kind, .int .i64 tk.num, .string tk.text, .slice aok tk.kids.length capk])) := (hvk.below ((Below.refl _ _).alloc (Nat.le_refl _) _) (fun b hb => (hP b hb).1)).own OW.out (fun b hb => ⟨by have := (hP b hb).1; simp; omega, (hP b hb).2⟩)
        have HPB : Hid (∀ x, P x → x < wr.heap.size ∧ u0.ownBlock ≠ some x) := fun x hx => ⟨by have := (hP x hx).1; have := OW.out.size; simp at this; omega, OW.out.apart (by have := (hP x hx).1; simp; omega) (hP x hx).2⟩
        have hkid : Hid (tk.sz ≤ k) := by
          have h5 : tk.sz < (VT.node 3 na sa la).sz := VT.sz_kid (t := VT.node 3 na sa la) htk
          show tk.sz ≤ k; omega
        have hrk := Lib.hid (VT.rights_get hrs.out htk)
        have hdrop := Lib.hid (VT.drop_kid htk)
        have g1' : (i : Int) < (la.length : Int) := by omega
        have hi0 : (0 : Int) ≤ (i : Int) := by omega
        have hNr : Hid (N ≤ wr.heap.size) := by have := OW.out.size; simp at this; show N ≤ wr.heap.size; omega
        clear hvk htk cc hblk
        go_wp2_with ((go_at_call 141; refine (ih tk _ _ P (d + 1) N u0 b' hkid.out hrk.out (hvk'.out.below ((Below.refl _ _).alloc (Nat.le_refl _) _) (fun b hb => (HPB.out b hb).1)) (fun x hx => ⟨by have := (HPB.out x hx).1; simp; omega, (HPB.out x hx).2⟩) (HROW.out.below ((Below.refl _ _).alloc (Nat.le_refl _) _)) (by have := hNr.out; simp; omega) HBL.out).mono ?_; rintro e w7 ⟨v7, rfl, hr7, ho7⟩; have HR7 := Lib.hid hr7; have HO7 := Lib.hid ho7; clear hr7 ho7))
        go_roundg (gk - 1)
        case measure => omega
        case rel => exact ⟨i + 1, _, by go_num, by omega, HR7.out, by rw [HPUT.out, hdrop.out, VT.puts_cons], by have := VT.put_len (L := 16384) tk b' (d + 1) hrk.out; have := HBL.out; omega, HOWN.out.trans ((OwnStep.made u0 ((Below.refl _ _).alloc (Nat.le_refl _) _)).trans HO7.out)⟩
      · obtain rfl : i = la.length := by omega
        go_wp2
        go_ret
        refine PutEnd.boxed (o := .cells #[.int .i64 3, .int .i64 na, .string sa, .slice ao la.length cap] 33) ⟨_, rfl, ?_, OW.out⟩ (fun k hk => HR.out.lt hk)
        rw [hpt.out, HPUT.out, List.drop_length, VT.puts_nil]
        exact HROW.out
end
end Go.Proofs.YtcpgbekcbaelpaaGreatDoor
/- The program's put of every value in form. -/
namespace Go.Proofs.YtcpgbekcbaelpaaGreatDoor
open Go.RowKit Go.Maps Wr
set_option linter.unusedVariables false

set_option maxRecDepth 100000 in
theorem put_stop (t : VT) (vt : Value) (w : World) (P : Nat → Prop) (N : Nat) (v : Value) (b : List UInt8) (hv : ValIs w P t vt) (hrow : ByteRow w N v b) (hb : 16384 < b.length) :
    Calls Tryz.prog 141 #[v, vt] w (PutEnd w N v (t.put 16384 b)) := by
  obtain ⟨k0, na, sa, la⟩ := t
  unfold ValIs at hv
  obtain ⟨ao, cap, rfl, a1, a2, a3, a4, a5, a6, a7⟩ := hv
  have hpt : Hid ((VT.node k0 na sa la).put 16384 b = b) := by show _ = _; rw [VT.put_node, if_pos hb]
  have HR := Lib.hid hrow
  obtain ⟨ao0, cap0, rfl, hc0, hc1⟩ := hrow.form
  unfold maxLen at a2 hc1
  clear hrow a7
  have hb2 : (16384 : Int) < b.length := by omega
  go_enter Tryz.func141, Tryz.ntmps141
  go_wp2
  go_ret
  refine PutEnd.boxed (o := .cells #[.int .i64 k0, .int .i64 na, .string sa, .slice ao la.length cap] 33) ⟨_, rfl, ?_, OwnStep.refl _ _⟩ (fun k hk => HR.out.lt hk)
  rw [hpt.out]
  exact HR.out.below ((Below.refl _ _).alloc (Nat.le_refl _) _)

theorem put_walk : ∀ (k : Nat) (t : VT) (vt : Value) (w : World) (P : Nat → Prop) (d : Int) (N : Nat) (v : Value) (b : List UInt8), t.sz ≤ k → t.right d = true → ValIs w P t vt → (∀ x, P x → x < w.heap.size ∧ v.ownBlock ≠ some x) → ByteRow w N v b → N ≤ w.heap.size → b.length ≤ 100000 →
    Calls Tryz.prog 141 #[v, vt] w (PutEnd w N v (t.put 16384 b)) := by
  intro k
  induction k with
  | zero => intro t _ _ _ _ _ _ _ h; cases t; simp [VT.sz] at h
  | succ k ih =>
    intro t vt w P d N v b hk hr hv hP hrow hN hb
    by_cases hs : 16384 < b.length
    · exact put_stop t vt w P N v b hv hrow hs
    · obtain ⟨k0, na, sa, la⟩ := t
      unfold ValIs at hv
      obtain ⟨ao, cap, rfl, a1, a2, a3, a4, a5, a6, a7⟩ := hv
      have hs : b.length ≤ 16384 := by omega
      obtain ⟨h0, h6, _⟩ := fits_parts (VT.right_parts hr).1
      have h : k0 = 0 ∨ k0 = 1 ∨ k0 = 2 ∨ k0 = 3 ∨ k0 = 4 ∨ k0 = 5 ∨ k0 = 6 := by omega
      rcases h with rfl | rfl | rfl | rfl | rfl | rfl | rfl
      · exact put_0 k ih na sa la w P d N v b ao cap hk hr a1 a2 a7 hP hrow hN hs
      · exact put_1 k ih na sa la w P d N v b ao cap hk hr a1 a2 a7 hP hrow hN hs
      · exact put_2 k ih na sa la w P d N v b ao cap hk hr a1 a2 a7 hP hrow hN hs
      · exact put_3 k ih na sa la w P d N v b ao cap hk hr a1 a2 a7 hP hrow hN hs
      · exact put_4 k ih na sa la w P d N v b ao cap hk hr a1 a2 a7 hP hrow hN hs
      · exact put_5 k ih na sa la w P d N v b ao cap hk hr a1 a2 a7 hP hrow hN hs
      · exact put_6 k ih na sa la w P d N v b ao cap hk hr a1 a2 a7 hP hrow hN hs
end Go.Proofs.YtcpgbekcbaelpaaGreatDoor
/- The program's fits: a node in form, but for its kids. -/
namespace Go.Proofs.YtcpgbekcbaelpaaGreatDoor
open Go.RowKit Go.Maps Wr
set_option linter.unusedVariables false

def bareB (x y : Bool) (n : Int) (s : ByteArray) (m : Nat) : Bool := (x || decide (n = 0)) && (y || emptyB s) && decide (m = 0)
section
variable (n : Int) (s : ByteArray) (ao : Option Addr) (m cap : Nat) (w : World)
set_option maxRecDepth 100000 in
set_option maxHeartbeats 1600000 in
theorem bare_any (k : Int) (x y : Bool) (hs : s.size ≤ maxLen) (hm : m ≤ cap) (hcap : cap ≤ maxLen) :
    Calls Tryz.prog 200 #[.agg #[.int .i64 k, .int .i64 n, .string s, .slice ao m cap], .bool x, .bool y] w fun e w' => e = .returned (.bool (bareB x y n s m)) ∧ Below w.heap.size w w' := by
  have hE1 := empty1 s
  have hE2 := empty2 s
  unfold maxLen at hs hcap
  cases x <;> cases y
  all_goals
    go_enter Tryz.func200, Tryz.ntmps200
    go_wp2
  all_goals
    go_ret
    refine ⟨ret_bool ?_, (Below.refl _ _).alloc (Nat.le_refl _) _⟩
    rw [Bool.eq_iff_iff]
    simp [bareB, *]
    try omega
    try (first | exact fun _ => hq | exact fun _ _ => hq | (intros; simp_all))
theorem step_callg {P : Program} {ops : Array Oper} {o : Oper} {a : Act} {w : World} {K : Act → World → Prop} {Q : Exit → Act → World → Prop} {E : Prop} {R : Ending → World → Prop} (hw : Region.wanted o (yielded ops a.tmps) = true) (f : FuncId) (args : Array Value)
    (hrun : (execOp a.eval o).run P w = .ok (.enter f args) w) (hc : Calls P f args w R) (hK : ∀ e w', R e w' → ∃ v, e = .returned v ∧ K (a.put o.dst v) w') : if Region.wanted o (yielded ops a.tmps) = true then Oper.wp P o a w K Q else E := by
  rw [if_pos hw]
  unfold Oper.wp
  rw [hrun]
  simp only [Oper.upon]
  refine hc.mono ?_
  intro e w' h
  obtain ⟨v, rfl, hk⟩ := hK e w' h
  exact hk
theorem cells_below {w w5 : World} {a b c d : Value} {t : TypeId} (h : Below (w.alloc (.cells #[a, b, c, d] t)).heap.size (w.alloc (.cells #[a, b, c, d] t)) w5) :
    w5.cell? ⟨w.heap.size, 0, none⟩ = some a ∧ w5.cell? ⟨w.heap.size, 1, none⟩ = some b ∧ w5.cell? ⟨w.heap.size, 2, none⟩ = some c ∧ w5.cell? ⟨w.heap.size, 3, none⟩ = some d ∧ Below w.heap.size w w5 := by
  have hb := (h.block w.heap.size (by simp)).trans (heap_alloc_new w _)
  refine ⟨?_, ?_, ?_, ?_, ((Below.refl _ _).alloc (Nat.le_refl _) _).trans (h.mono (by simp))⟩ <;> simp [World.cell?, hb]
theorem cells_below' {w w5 : World} {a b c d : Value} {t : TypeId} (h : Below (w.alloc (.cells #[a, b, c, d] t)).drew.heap.size (w.alloc (.cells #[a, b, c, d] t)).drew w5) :
    w5.cell? ⟨w.heap.size, 0, none⟩ = some a ∧ w5.cell? ⟨w.heap.size, 1, none⟩ = some b ∧ w5.cell? ⟨w.heap.size, 2, none⟩ = some c ∧ w5.cell? ⟨w.heap.size, 3, none⟩ = some d ∧ Below w.heap.size w w5 :=
  cells_below ((Below.refl _ _).drew.trans h)
set_option maxRecDepth 100000 in
set_option maxHeartbeats 1600000 in
theorem valFits_3 (hs : s.size ≤ maxLen) (hm : m ≤ cap) (hcap : cap ≤ maxLen) :
    Calls Tryz.prog 171 #[.agg #[.int .i64 3, .int .i64 n, .string s, .slice ao m cap]] w fun e w' => e = .returned (.bool (fitsB 3 n s m)) ∧ Below w.heap.size w w' := by
  have hE1 := empty1 s
  have hE2 := empty2 s
  unfold maxLen at hs hcap
  go_enter Tryz.func171, Tryz.ntmps171
  go_wp2
  all_goals
    go_ret
    refine ⟨ret_bool ?_, (Below.refl _ _).alloc (Nat.le_refl _) _⟩
    rw [Bool.eq_iff_iff]
    simp [fitsB, *]
    try omega
    try (first | exact fun _ => hq | exact fun _ _ => hq | (intros; simp_all))
set_option maxRecDepth 100000 in
set_option maxHeartbeats 1600000 in
theorem valFits_4 (hs : s.size ≤ maxLen) (hm : m ≤ cap) (hcap : cap ≤ maxLen) :
    Calls Tryz.prog 171 #[.agg #[.int .i64 4, .int .i64 n, .string s, .slice ao m cap]] w fun e w' => e = .returned (.bool (fitsB 4 n s m)) ∧ Below w.heap.size w w' := by
  have hE1 := empty1 s
  have hE2 := empty2 s
  unfold maxLen at hs hcap
  go_enter Tryz.func171, Tryz.ntmps171
  go_wp2
  all_goals
    go_ret
    refine ⟨ret_bool ?_, (Below.refl _ _).alloc (Nat.le_refl _) _⟩
    rw [Bool.eq_iff_iff]
    simp [fitsB, *]
    try omega
    try (first | exact fun _ => hq | exact fun _ _ => hq | (intros; simp_all))
set_option maxRecDepth 100000 in
set_option maxHeartbeats 1600000 in
theorem valFits_2 (hs : s.size ≤ maxLen) (hm : m ≤ cap) (hcap : cap ≤ maxLen) :
    Calls Tryz.prog 171 #[.agg #[.int .i64 2, .int .i64 n, .string s, .slice ao m cap]] w fun e w' => e = .returned (.bool (fitsB 2 n s m)) ∧ Below w.heap.size w w' := by
  have hE1 := empty1 s
  have hE2 := empty2 s
  have HB := Lib.hid (fun W => bare_any n s ao m cap W 2 false true hs hm hcap)
  unfold maxLen at hs hcap
  cases hb : bareB false true n s m
  all_goals
    rw [hb] at HB
    have HQ := Lib.hid hb
    clear hb
    go_enter Tryz.func171, Tryz.ntmps171
    go_wp2_with ((go_at_call 200; refine (HB.out _).mono ?_; rintro e w5 ⟨rfl, hb5⟩; obtain ⟨c0, c1, c2, c3, hb6⟩ := cells_below hb5; have H6 := Lib.hid hb6; clear hb5 hb6))
  all_goals
    go_ret
    refine ⟨ret_bool ?_, H6.out⟩
    have hq := HQ.out
    simp [bareB] at hq
    rw [Bool.eq_iff_iff]
    simp [fitsB, *]
    try omega
    try (first | exact fun _ => hq | exact fun _ _ => hq | (intros; simp_all))
set_option maxRecDepth 100000 in
set_option maxHeartbeats 1600000 in
theorem valFits_5 (hs : s.size ≤ maxLen) (hm : m ≤ cap) (hcap : cap ≤ maxLen) :
    Calls Tryz.prog 171 #[.agg #[.int .i64 5, .int .i64 n, .string s, .slice ao m cap]] w fun e w' => e = .returned (.bool (fitsB 5 n s m)) ∧ Below w.heap.size w w' := by
  have hE1 := empty1 s
  have hE2 := empty2 s
  have HB := Lib.hid (fun W => bare_any n s ao m cap W 5 true false hs hm hcap)
  unfold maxLen at hs hcap
  cases hb : bareB true false n s m
  all_goals
    rw [hb] at HB
    have HQ := Lib.hid hb
    clear hb
    go_enter Tryz.func171, Tryz.ntmps171
    go_wp2_with ((go_at_call 200; refine (HB.out _).mono ?_; rintro e w5 ⟨rfl, hb5⟩; obtain ⟨c0, c1, c2, c3, hb6⟩ := cells_below hb5; have H6 := Lib.hid hb6; clear hb5 hb6))
  all_goals
    go_ret
    refine ⟨ret_bool ?_, H6.out⟩
    have hq := HQ.out
    simp [bareB] at hq
    rw [Bool.eq_iff_iff]
    simp [fitsB, *]
    try omega
    try (first | exact fun _ => hq | exact fun _ _ => hq | (intros; simp_all))
set_option maxRecDepth 100000 in
set_option maxHeartbeats 1600000 in
theorem valFits_6 (hs : s.size ≤ maxLen) (hm : m ≤ cap) (hcap : cap ≤ maxLen) :
    Calls Tryz.prog 171 #[.agg #[.int .i64 6, .int .i64 n, .string s, .slice ao m cap]] w fun e w' => e = .returned (.bool (fitsB 6 n s m)) ∧ Below w.heap.size w w' := by
  have hE1 := empty1 s
  have hE2 := empty2 s
  have HB := Lib.hid (fun W => bare_any n s ao m cap W 6 false false hs hm hcap)
  unfold maxLen at hs hcap
  cases hb : bareB false false n s m
  all_goals
    rw [hb] at HB
    have HQ := Lib.hid hb
    clear hb
    go_enter Tryz.func171, Tryz.ntmps171
    go_wp2_with ((go_at_call 200; refine (HB.out _).mono ?_; rintro e w5 ⟨rfl, hb5⟩; obtain ⟨c0, c1, c2, c3, hb6⟩ := cells_below hb5; have H6 := Lib.hid hb6; clear hb5 hb6))
  all_goals
    go_ret
    refine ⟨ret_bool ?_, H6.out⟩
    have hq := HQ.out
    simp [bareB] at hq
    rw [Bool.eq_iff_iff]
    simp [fitsB, *]
    try omega
    try (first | exact fun _ => hq | exact fun _ _ => hq | (intros; simp_all))
set_option maxRecDepth 100000 in
set_option maxHeartbeats 1600000 in
theorem valFits_0 (hs : s.size ≤ maxLen) (hm : m ≤ cap) (hcap : cap ≤ maxLen) :
    Calls Tryz.prog 171 #[.agg #[.int .i64 0, .int .i64 n, .string s, .slice ao m cap]] w fun e w' => e = .returned (.bool (fitsB 0 n s m)) ∧ Below w.heap.size w w' := by
  have hE1 := empty1 s
  have hE2 := empty2 s
  have HB := Lib.hid (fun W => bare_any n s ao m cap W 0 true false hs hm hcap)
  have HS := Lib.hid hs
  unfold maxLen at hs hcap
  cases hb : bareB true false n s m
  · rw [hb] at HB
    have HQ := Lib.hid hb
    clear hb
    go_enter Tryz.func171, Tryz.ntmps171
    go_wp2
    first | go_region_law ((refine step_callw (by rfl) 200 #[.agg #[.int .i64 0, .int .i64 n, .string s, .slice ao m cap], .bool true, .bool false] ?_ (HB.out _) ?_; go_simp; rintro e w5 ⟨rfl, hb5⟩; refine ⟨.bool false, rfl, ?_⟩; obtain ⟨c0, c1, c2, c3, hb6⟩ := cells_below' hb5; have H6 := Lib.hid hb6; clear hb5 hb6)) | fail
    go_wp2
    all_goals
      go_ret
      refine ⟨ret_bool ?_, H6.out⟩
      have hq := HQ.out
      simp [bareB] at hq
      rw [Bool.eq_iff_iff]
      simp [fitsB, *]
      try omega
      try (first | exact fun _ => hq | exact fun _ _ => hq | (intros; simp_all))
  · rw [hb] at HB
    have HQ := Lib.hid hb
    clear hb
    go_enter Tryz.func171, Tryz.ntmps171
    go_wp2
    go_region_law (first
      | (refine step_callw (by rfl) 200 #[.agg #[.int .i64 0, .int .i64 n, .string s, .slice ao m cap], .bool true, .bool false] ?_ (HB.out _) ?_; go_simp; rintro e w5 ⟨rfl, hb5⟩; refine ⟨.bool true, rfl, ?_⟩; obtain ⟨c0, c1, c2, c3, hb6⟩ := cells_below' hb5; have H6 := Lib.hid hb6; clear hb5 hb6)
      | (refine step_callg (by rfl) 137 #[.int .i64 n] ?_ (wrap_any _ _) ?_; go_simp; rintro e w6 ⟨rfl, rfl⟩; refine ⟨.int .i64 (wr n), rfl, ?_⟩))
    all_goals go_wp2
    all_goals
      go_ret
      refine ⟨ret_bool ?_, H6.out⟩
      have hq := HQ.out
      simp [bareB] at hq
      rw [Bool.eq_iff_iff]
      simp [fitsB, *]
      try omega
      try (first | exact fun _ => hq | exact fun _ _ => hq | (intros; simp_all))
set_option maxRecDepth 100000 in
set_option maxHeartbeats 1600000 in
theorem valFits_1 (hs : s.size ≤ maxLen) (hm : m ≤ cap) (hcap : cap ≤ maxLen) :
    Calls Tryz.prog 171 #[.agg #[.int .i64 1, .int .i64 n, .string s, .slice ao m cap]] w fun e w' => e = .returned (.bool (fitsB 1 n s m)) ∧ Below w.heap.size w w' := by
  have hE1 := empty1 s
  have hE2 := empty2 s
  have HB := Lib.hid (fun W => bare_any n s ao m cap W 1 false true hs hm hcap)
  have HS := Lib.hid hs
  unfold maxLen at hs hcap
  cases hb : bareB false true n s m
  · rw [hb] at HB
    have HQ := Lib.hid hb
    clear hb
    go_enter Tryz.func171, Tryz.ntmps171
    go_wp2
    first | go_region_law ((refine step_callw (by rfl) 200 #[.agg #[.int .i64 1, .int .i64 n, .string s, .slice ao m cap], .bool false, .bool true] ?_ (HB.out _) ?_; go_simp; rintro e w5 ⟨rfl, hb5⟩; refine ⟨.bool false, rfl, ?_⟩; obtain ⟨c0, c1, c2, c3, hb6⟩ := cells_below' hb5; have H6 := Lib.hid hb6; clear hb5 hb6)) | fail
    go_wp2
    all_goals
      go_ret
      refine ⟨ret_bool ?_, H6.out⟩
      have hq := HQ.out
      simp [bareB] at hq
      rw [Bool.eq_iff_iff]
      simp [fitsB, *]
      try omega
      try (first | exact fun _ => hq | exact fun _ _ => hq | (intros; simp_all))
  · rw [hb] at HB
    have HQ := Lib.hid hb
    clear hb
    by_cases h8 : s.size = 8
    · have h8' : ((s.size : Int) == 8) = true := by simp [h8]
      have H8 := Lib.hid h8
      clear h8
      go_enter Tryz.func171, Tryz.ntmps171
      go_wp2
      go_region_held3 (fun w' => w'.cell? ⟨w.heap.size, 0, none⟩ = some (.int .i64 1) ∧ w'.cell? ⟨w.heap.size, 1, none⟩ = some (.int .i64 n) ∧ w'.cell? ⟨w.heap.size, 2, none⟩ = some (.string s) ∧ w'.cell? ⟨w.heap.size, 3, none⟩ = some (.slice ao m cap)) (first | exact ⟨c0, c1, c2, c3⟩ | go_keep)
        ((first
          | (go_at_call 200; refine (HB.out _).mono ?_; rintro e w5 ⟨rfl, hb5⟩; obtain ⟨c0, c1, c2, c3, hb6⟩ := cells_below' hb5; have H6 := Lib.hid hb6; clear hb5 hb6)
          | (go_at_call 165; refine (float_any _ _ HS.out).mono ?_; rintro e w6 ⟨rfl, rfl⟩)
          | (go_at_call 202; refine (asGo_any _ _).mono ?_; rintro e w6 ⟨rfl, rfl⟩)
          | (go_at_call 201; refine (of_any _ _).mono ?_; rintro e w6 ⟨rfl, rfl⟩)))
      all_goals go_wp2
      all_goals
        go_ret
        refine ⟨ret_bool ?_, H6.out⟩
        have hq := HQ.out
        simp [bareB] at hq
        rw [Bool.eq_iff_iff]
        simp [fitsB, H8.out, sameBits, hq]
        try omega
    · have h8' : ((s.size : Int) == 8) = false := by simp; omega
      have H8 := Lib.hid h8
      clear h8
      go_enter Tryz.func171, Tryz.ntmps171
      go_wp2
      first | go_region_law ((refine step_callw (by rfl) 200 #[.agg #[.int .i64 1, .int .i64 n, .string s, .slice ao m cap], .bool false, .bool true] ?_ (HB.out _) ?_; go_simp; rintro e w5 ⟨rfl, hb5⟩; refine ⟨.bool true, rfl, ?_⟩; obtain ⟨c0, c1, c2, c3, hb6⟩ := cells_below' hb5; have H6 := Lib.hid hb6; clear hb5 hb6)) | fail
      all_goals go_wp2
      all_goals
        go_ret
        refine ⟨ret_bool ?_, H6.out⟩
        have hq := HQ.out
        simp [bareB] at hq
        rw [Bool.eq_iff_iff]
        simp [fitsB, H8.out]
        try omega
set_option maxRecDepth 100000 in
set_option maxHeartbeats 1600000 in
theorem valFits_x (k : Int) (h0 : ¬ k = 0) (h1 : ¬ k = 1) (h2 : ¬ k = 2) (h3 : ¬ k = 3) (h4 : ¬ k = 4) (h5 : ¬ k = 5) (h6 : ¬ k = 6) (hs : s.size ≤ maxLen) (hm : m ≤ cap) (hcap : cap ≤ maxLen) :
    Calls Tryz.prog 171 #[.agg #[.int .i64 k, .int .i64 n, .string s, .slice ao m cap]] w fun e w' => e = .returned (.bool (fitsB k n s m)) ∧ Below w.heap.size w w' := by
  unfold maxLen at hs hcap
  go_enter Tryz.func171, Tryz.ntmps171
  go_wp2
  all_goals
    go_ret
    refine ⟨ret_bool ?_, (Below.refl _ _).alloc (Nat.le_refl _) _⟩
    rw [Bool.eq_iff_iff]
    simp [fitsB, *]
end
theorem valFits_any (k n : Int) (s : ByteArray) (ao : Option Addr) (m cap : Nat) (w : World) (hs : s.size ≤ maxLen) (hm : m ≤ cap) (hcap : cap ≤ maxLen) :
    Calls Tryz.prog 171 #[.agg #[.int .i64 k, .int .i64 n, .string s, .slice ao m cap]] w fun e w' => e = .returned (.bool (fitsB k n s m)) ∧ Below w.heap.size w w' := by
  by_cases h0 : k = 0
  · subst h0; exact valFits_0 n s ao m cap w hs hm hcap
  by_cases h1 : k = 1
  · subst h1; exact valFits_1 n s ao m cap w hs hm hcap
  by_cases h2 : k = 2
  · subst h2; exact valFits_2 n s ao m cap w hs hm hcap
  by_cases h3 : k = 3
  · subst h3; exact valFits_3 n s ao m cap w hs hm hcap
  by_cases h4 : k = 4
  · subst h4; exact valFits_4 n s ao m cap w hs hm hcap
  by_cases h5 : k = 5
  · subst h5; exact valFits_5 n s ao m cap w hs hm hcap
  by_cases h6 : k = 6
  · subst h6; exact valFits_6 n s ao m cap w hs hm hcap
  exact valFits_x n s ao m cap w k h0 h1 h2 h3 h4 h5 h6 hs hm hcap
end Go.Proofs.YtcpgbekcbaelpaaGreatDoor
/- The program's right: a value in form, all the way down. -/
namespace Go.Proofs.YtcpgbekcbaelpaaGreatDoor
open Go.RowKit Go.Maps Wr
set_option linter.unusedVariables false

def anyWrong (l : List VT) (d : Int) : Bool := !VT.rights l d
def WrongFn (lb : Array Value) (g : FuncId) (l : List VT) (d : Int) (w : World) : Prop :=
  ∀ (W : World) (i : Nat) (t : VT) (ao : Option Addr) (cap : Nat), Below w.heap.size w W → l[i]? = some t → ValIs w (fun b => b < w.heap.size) t (vval t ao cap) →
    Calls Tryz.prog g (#[vval t ao cap] ++ lb) W fun e w' => e = .returned (.bool (!t.right d)) ∧ Below w.heap.size w w'

def IdxLoop (w : World) (l : List VT) (d : Int) (k : Nat) (s8 : Value) (wr : World) : Prop :=
  ∃ i : Nat, s8 = .int .i64 i ∧ i + k = l.length ∧ VT.rights l d = VT.rights (l.drop i) d ∧ Below w.heap.size w wr

set_option maxRecDepth 100000 in
set_option maxHeartbeats 1600000 in
theorem idx_walk (g : FuncId) (lb : Array Value) (eg : ∀ args w, (callFunc g args).run Tryz.prog w = .ok (.enter g args) w) (l : List VT) (d : Int) (ao : Option Addr) (cap : Nat) (w : World) (h1 : l.length ≤ cap) (h2 : cap ≤ maxLen)
    (hk : KidsAt w (fun b => b < w.heap.size) l ao 0) (hp : WrongFn lb g l d w) :
    Calls Tryz.prog 203 #[.slice ao l.length cap, .func (.func g) #[] lb] w fun e w' => (∃ i : Int, e = .returned (.int .i64 i) ∧ decide (0 ≤ i) = anyWrong l d) ∧ Below w.heap.size w w' := by
  unfold maxLen at h2
  have HK := Lib.hid hk
  have HP := Lib.hid hp
  clear hk hp
  go_enter Tryz.func203, Tryz.ntmps203
  go_wp2
  have HL : Hid (IdxLoop w l d l.length (.int .i64 0) w) := ⟨0, rfl, by omega, rfl, Below.refl _ _⟩
  go_loopg [5, 8] l.length (fun k _ s8 wr => IdxLoop w l d k s8 wr)
  case atStart => exact HL.out
  case round =>
    clear HL
    obtain ⟨i, rfl, hik, hr, hb⟩ := hrel
    have HB := Lib.hid hb
    have HR := Lib.hid hr
    clear hb hr
    by_cases hlt : i < l.length
    · obtain ⟨tk, htk⟩ : ∃ u, l[i]? = some u := ⟨_, List.getElem?_eq_getElem hlt⟩
      obtain ⟨bb, oo, _, _, _, _, rfl, hbb, _⟩ := HK.out.get htk
      obtain ⟨_, aok, capk, p0, p1, p2, p3, hvk⟩ := HK.out.cells htk
      rw [Nat.zero_add] at p0 p1 p2 p3
      have cc : ∀ j, wr.cell? ⟨bb, j, none⟩ = w.cell? ⟨bb, j, none⟩ := fun j => HB.out.cell (p := ⟨bb, j, none⟩) hbb
      replace p0 := (cc _).trans p0
      replace p1 := (cc _).trans p1
      replace p2 := (cc _).trans p2
      replace p3 := (cc _).trans p3
      have HC0 := HP.out wr i tk aok capk HB.out htk hvk
      unfold vval at HC0
      have HC := Lib.hid HC0
      clear HC0
      have hdrop := Lib.hid (VT.drop_kid htk)
      have g1' : (i : Int) < (l.length : Int) := by omega
      have hi0 : (0 : Int) ≤ (i : Int) := by omega
      clear hvk htk cc
      have HQ : Hid (VT.rights (tk :: l.drop (i + 1)) d = (tk.right d && VT.rights (l.drop (i + 1)) d)) := VT.rights_cons _ _ _
      generalize tk.right d = q at HC HQ
      generalize tk.kind = x0 at p0 HC
      generalize tk.num = x1 at p1 HC
      generalize tk.text = x2 at p2 HC
      generalize tk.kids.length = x3 at p3 HC
      cases q
      · go_wp2_with (fail)
        refine HC.out.mono ?_
        rintro e w5 ⟨rfl, hb5⟩
        have H5 := Lib.hid hb5
        clear hb5
        go_wp2
        go_ret
        refine ⟨⟨i, rfl, ?_⟩, H5.out⟩
        unfold anyWrong
        rw [HR.out, hdrop.out, HQ.out]
        simp
      · go_wp2_with (fail)
        refine HC.out.mono ?_
        rintro e w5 ⟨rfl, hb5⟩
        have H5 := Lib.hid hb5
        clear hb5
        go_wp2
        go_roundg (gk - 1)
        case measure => omega
        case rel => exact ⟨i + 1, by go_num, by omega, by rw [HR.out, hdrop.out, HQ.out]; simp, H5.out⟩
    · obtain rfl : i = l.length := by omega
      go_wp2
      go_ret
      refine ⟨⟨-1, rfl, ?_⟩, HB.out⟩
      unfold anyWrong
      rw [HR.out, List.drop_length, VT.rights_nil]
      rfl

set_option maxRecDepth 100000 in
theorem contains_walk (g : FuncId) (lb : Array Value) (eg : ∀ args w, (callFunc g args).run Tryz.prog w = .ok (.enter g args) w) (l : List VT) (d : Int) (ao : Option Addr) (cap : Nat) (w : World) (h1 : l.length ≤ cap) (h2 : cap ≤ maxLen)
    (hk : KidsAt w (fun b => b < w.heap.size) l ao 0) (hp : WrongFn lb g l d w) :
    Calls Tryz.prog 172 #[.slice ao l.length cap, .func (.func g) #[] lb] w fun e w' => e = .returned (.bool (anyWrong l d)) ∧ Below w.heap.size w w' := by
  have HI := Lib.hid (idx_walk g lb eg l d ao cap w h1 h2 hk hp)
  clear hk hp
  unfold maxLen at h2
  go_enter Tryz.func172, Tryz.ntmps172
  go_wp2_with ((go_at_call 203; refine HI.out.mono ?_; rintro e w5 ⟨⟨i, rfl, hi⟩, hb5⟩))
  go_ret
  exact ⟨rfl, hb5⟩

theorem cells_below2 {w w5 : World} {a b c d e : Value} {t t2 : TypeId} (h : Below ((w.alloc (.cells #[a, b, c, d] t)).alloc (.cells #[e] t2)).heap.size ((w.alloc (.cells #[a, b, c, d] t)).alloc (.cells #[e] t2)) w5) :
    w5.cell? ⟨w.heap.size, 3, none⟩ = some d ∧ w5.cell? ⟨w.heap.size + 1, 0, none⟩ = some e ∧ Below w.heap.size w w5 := by
  have hb0 := (h.block w.heap.size (by simp; omega)).trans ((heap_alloc_old _ _ (by simp)).trans (heap_alloc_new w _))
  have hs : (w.alloc (.cells #[a, b, c, d] t)).heap.size = w.heap.size + 1 := by simp
  have hn : ((w.alloc (.cells #[a, b, c, d] t)).alloc (.cells #[e] t2)).heap[w.heap.size + 1]? = some (.cells #[e] t2 (0, 0)) := by rw [← hs]; exact heap_alloc_new _ _
  have hb1 := (h.block (w.heap.size + 1) (by simp)).trans hn
  refine ⟨?_, ?_, (((Below.refl _ _).alloc (Nat.le_refl _) _).alloc (by simp) _).trans (h.mono (by simp; omega))⟩
  · simp [World.cell?, hb0]
  · simp [World.cell?, hb1]
theorem lt_of_cell {w : World} {q j : Nat} {v : Value} (h : w.cell? ⟨q, j, none⟩ = some v) : q < w.heap.size := by
  rcases Nat.lt_or_ge q w.heap.size with hlt | hge
  · exact hlt
  · unfold World.cell? at h; rw [Array.getElem?_eq_none hge] at h; cases h
theorem new_ne' (w : World) {q j : Nat} {v : Value} (h : w.cell? ⟨q, j, none⟩ = some v) (o : Obj) : (w.alloc o).cell? ⟨q, j, none⟩ = some v :=
  (((Below.refl w.heap.size w).alloc (Nat.le_refl _) o).cell (p := ⟨q, j, none⟩) (lt_of_cell h)).trans h
set_option maxRecDepth 100000 in
theorem wrong_fn (t : VT) (ao : Option Addr) (cap q : Nat) (d : Int) (w : World) (hc : w.cell? ⟨q, 0, none⟩ = some (.int .i64 d)) (h0 : 0 ≤ d) (h1 : d ≤ 200)
    (HR : Hid (∀ W, Below w.heap.size w W → Calls Tryz.prog 139 #[vval t ao cap, .int .i64 (d + 1)] W fun e w' => e = .returned (.bool (t.right (d + 1))) ∧ Below W.heap.size W w')) :
    Calls Tryz.prog 173 #[vval t ao cap, .pointer (some ⟨q, 0, none⟩)] w fun e w' => e = .returned (.bool (!t.right (d + 1))) ∧ Below w.heap.size w w' := by
  unfold vval at *
  have hq : Hid (q < w.heap.size) := lt_of_cell hc
  have hc2 := fun o => new_ne' w hc o
  generalize t.right (d + 1) = r at *
  generalize t.kind = x0 at *
  generalize t.num = x1 at *
  generalize t.text = x2 at *
  generalize t.kids.length = x3 at *
  go_enter Tryz.func173, Tryz.ntmps173
  go_wp2_with ((go_at_call 139; refine (HR.out _ ((Below.refl _ _).alloc (Nat.le_refl _) _)).mono ?_; rintro e w5 ⟨rfl, hb5⟩; have H5 := Lib.hid hb5; clear hb5))
  go_ret
  exact ⟨rfl, ((Below.refl _ _).alloc (Nat.le_refl _) _).trans (H5.out.mono (by simp))⟩

set_option maxRecDepth 100000 in
set_option maxHeartbeats 1600000 in
theorem right_walk (k : Nat) : ∀ (t : VT) (v : Value) (w : World) (P : Nat → Prop) (d : Int), t.sz ≤ k → ValIs w P t v → (∀ b, P b → b < w.heap.size) → 0 ≤ d → d ≤ 201 →
    Calls Tryz.prog 139 #[v, .int .i64 d] w fun e w' => e = .returned (.bool (t.right d)) ∧ Below w.heap.size w w' := by
  induction k with
  | zero => intro t v w P d hk; cases t; simp [VT.sz] at hk
  | succ k ih =>
    intro t v w P d hk ht hP hd0 hd1
    cases t with
    | node ka na sa la =>
    unfold ValIs at ht
    obtain ⟨ao, cap, rfl, a1, a2, a3, a4, a5, a6, a7⟩ := ht
    have HF := Lib.hid (fun w => valFits_any ka na sa ao la.length cap w a3 a1 a2)
    have A2 := Lib.hid a2
    have IH := Lib.hid ih
    clear ih
    unfold maxLen at a2 a3
    by_cases h200 : d ≤ 200
    · cases hf : fitsB ka na sa la.length
      · rw [hf] at HF
        have hr : (VT.node ka na sa la).right d = false := by rw [VT.right_node, hf]; simp
        rw [hr]
        go_enter Tryz.func139, Tryz.ntmps139
        go_wp2_with ((go_at_call 171; refine (HF.out _).mono ?_; rintro e w5 ⟨rfl, hb5⟩))
        go_ret
        exact ⟨rfl, (((Below.refl _ _).alloc (Nat.le_refl _) _).alloc (by simp) _).trans (hb5.mono (by simp; omega))⟩
      · rw [hf] at HF
        have hr : Hid ((VT.node ka na sa la).right d = !anyWrong la (d + 1)) := by show _ = _; rw [VT.right_node, hf]; simp [h200, anyWrong]
        go_enter Tryz.func139, Tryz.ntmps139
        have HW : Hid (∀ w5 : World, Below w.heap.size w w5 → w5.cell? ⟨w.heap.size + 1, 0, none⟩ = some (.int .i64 d) → Calls Tryz.prog 172 #[.slice ao la.length cap, .func (.func 173) #[] #[.pointer (some ⟨w.heap.size + 1, 0, none⟩)]] w5 fun e w' => e = .returned (.bool (anyWrong la (d + 1))) ∧ Below w5.heap.size w5 w') := by
          intro w5 hb5 hcd
          refine contains_walk _ _ (fun _ _ => by rfl) la (d + 1) ao cap w5 a1 A2.out (a7.keep (fun b hb => Nat.lt_of_lt_of_le (hP b hb) hb5.size) (fun p hp => hb5.cell (hP p.block hp))) ?_
          intro W i t ao' cap' hW hi hv
          have hsz : t.sz ≤ k := by
            have h5 : t.sz < (VT.node ka na sa la).sz := VT.sz_kid (t := VT.node ka na sa la) hi
            omega
          have hlt := lt_of_cell hcd
          refine (wrong_fn t ao' cap' (w.heap.size + 1) d W ((hW.cell (p := ⟨w.heap.size + 1, 0, none⟩) hlt).trans hcd) hd0 h200 ?_).mono ?_
          · intro W2 hW2
            exact IH.out t _ W2 (fun b => b < w5.heap.size) (d + 1) hsz ((hv.below hW (fun b hb => hb)).below hW2 (fun b hb => Nat.lt_of_lt_of_le hb hW.size)) (fun b hb => Nat.lt_of_lt_of_le hb (Nat.le_trans hW.size hW2.size)) (by omega) (by omega)
          · rintro e w' ⟨rfl, hb⟩
            exact ⟨rfl, hW.trans (hb.mono hW.size)⟩
        clear IH a7
        go_wp2_with (first
          | ((go_at_call 171; refine (HF.out _).mono ?_; rintro e w5 ⟨rfl, hb5⟩; obtain ⟨c3, cd, hb6⟩ := cells_below2 hb5; have HB6 := Lib.hid hb6; have CD := Lib.hid cd; clear hb5 hb6 cd))
          | ((go_at_call 172; refine (HW.out _ HB6.out CD.out).mono ?_; rintro e w7 ⟨rfl, hb7⟩; have HB7 := Lib.hid hb7; clear hb7)))
        all_goals
          go_ret
          refine ⟨?_, HB6.out.trans (HB7.out.mono HB6.out.size)⟩
          rw [hr.out]
          rfl
    · have hr : (VT.node ka na sa la).right d = false := by rw [VT.right_node]; simp [h200]
      rw [hr]
      go_enter Tryz.func139, Tryz.ntmps139
      go_wp2
      go_ret
      exact ⟨rfl, ((Below.refl _ _).alloc (Nat.le_refl _) _).alloc (by simp) _⟩
end Go.Proofs.YtcpgbekcbaelpaaGreatDoor
/- A row of bytes that grows by a text's bytes. -/
namespace Go.Proofs.YtcpgbekcbaelpaaGreatDoor
open Go.RowKit Go.Maps Wr
set_option linter.unusedVariables false

theorem run_apps {w : World} {ty : TypeId} {N : Nat} {v : Value} {b : List UInt8} (hr : ByteRow w N v b) (s : ByteArray) (hne : 0 < s.size) (hN : N ≤ w.heap.size) (h63 : b.length + s.size ≤ 1000000000) :
    ∃ v' w', (Builtin.append_ #[44, 9] ty #[v, .string s]).run Tryz.prog w = .ok v' w' ∧ ByteRow w' N v' (b ++ s.data.toList) ∧ OwnStep w v w' v' := by
  obtain ⟨i0, hi, hz0, hz1, hz2⟩ := info_parts infoB
  have hl := bvals_length b
  obtain ⟨v', w', hrun, hown, hgr, _⟩ := Lib.run_append_own_string (P := Tryz.prog) w N 44 9 ty 5 i0 Tryz.underlying44 Tryz.underlying9 hi hz0 hz1 hz2 v b.length (bvals b) hr.owns s (by unfold maxLen; omega) (by omega) hN
  refine ⟨v', w', hrun, ?_, (Chg.refl _ w).grown hgr (fun k hk => .inl (by simp [hk])), ?_⟩
  · rw [strCells_bvals, ← bvals_append] at hown
    exact ByteRow.of hown (by rw [List.length_append]; simp)
  · rcases hr.owns.2 with ⟨rfl, h0⟩ | ⟨g, cap, cur, rfl, hbg, hg, hnc, hcm, hcs, htake⟩
    · have hr2 := run_append_nil_string (P := Tryz.prog) w 44 9 ty 5 i0 (.int .u8 0) Tryz.underlying44 Tryz.underlying9 hi hz0 s hne (by omega) (by rw [hz2]; omega)
      rw [hrun] at hr2
      injection hr2 with e1 e2
      exact .inr ⟨w.heap.size, by rw [e1]; rfl, Nat.le_refl _⟩
    · by_cases hroom : b.length + s.size ≤ cap
      · have hcs' : cur.size = cap := by simpa using hcs
        have hr2 := Lib.run_append_room_string (P := Tryz.prog) w 44 9 ty 5 i0 Tryz.underlying44 Tryz.underlying9 hi hz1 g b.length cap cur hg s hroom (by omega)
        rw [hrun] at hr2
        injection hr2 with e1 e2
        exact .inl (by rw [e1]; rfl)
      · have holds : ∀ j u, (bvals b)[j]? = some u → w.cell? ((⟨g, 0, none⟩ : Addr).add j) = some u := hr.owns.cells (g := g) rfl
        have hr2 := Lib.run_append_grow_string (P := Tryz.prog) w 44 9 ty 5 i0 (.int .u8 0) Tryz.underlying44 Tryz.underlying9 hi hz0 ⟨g, 0, none⟩ b.length cap (bvals b) (by rw [hz1, Nat.mul_one, hl]) holds s (by omega) (by omega) (by rw [hz2]; exact growslice_fits (by omega) (by omega))
        rw [hrun] at hr2
        injection hr2 with e1 e2
        exact .inr ⟨w.heap.size, by rw [e1]; rfl, Nat.le_refl _⟩

theorem wpList_apps {w : World} {ops : Array Oper} {rest : List Oper} {o : Oper} {a : Act} {Q : Exit → Act → World → Prop} (hgd : o.guard = none) (sl x : Operand)
    (ho : o.op = .call { callee := .builtin .append, args := #[sl, x], argTypes := #[44, 9] }) {N : Nat} {v : Value} {b : List UInt8} (hs : a.eval sl = v) (hr : ByteRow w N v b) {s : ByteArray} (hx : a.eval x = .string s) (hne : 0 < s.size) (hN : N ≤ w.heap.size)
    (h63 : b.length + s.size ≤ 1000000000)
    (h : ∀ v' w', ByteRow w' N v' (b ++ s.data.toList) → OwnStep w v w' v' → wpList Tryz.prog ops Q rest (a.put o.dst v') w') : wpList Tryz.prog ops Q (o :: rest) a w := by
  refine wpList_plain hgd fun K hK => ?_
  obtain ⟨v', w', hrun, h2, h3⟩ := run_apps (ty := o.type) hr s hne hN h63
  unfold Oper.wp execOp
  simp only [ho, resolve, invoke, builtin, Sem.run_bind, Sem.run_pure, Result.andThen_ok, List.map_toArray, List.map_cons, List.map_nil, hs, hx, hrun]
  exact hK _ _ (h v' w' h2 h3)

theorem step_apps {w : World} {ops : Array Oper} {o : Oper} {a : Act} {K : Act → World → Prop} {Q : Exit → Act → World → Prop} {E : Prop} (hgd : o.guard = none) (sl x : Operand)
    (ho : o.op = .call { callee := .builtin .append, args := #[sl, x], argTypes := #[44, 9] }) {N : Nat} {v : Value} {b : List UInt8} (hs : a.eval sl = v) (hr : ByteRow w N v b) {s : ByteArray} (hx : a.eval x = .string s) (hne : 0 < s.size) (hN : N ≤ w.heap.size)
    (h63 : b.length + s.size ≤ 1000000000)
    (h : ∀ v' w', ByteRow w' N v' (b ++ s.data.toList) → OwnStep w v w' v' → K (a.put o.dst v') w') : if Region.wanted o (yielded ops a.tmps) = true then Oper.wp Tryz.prog o a w K Q else E := by
  have hw : Region.wanted o (yielded ops a.tmps) = true := by simp [Region.wanted, hgd]
  rw [if_pos hw]
  obtain ⟨v', w', hrun, h2, h3⟩ := run_apps (ty := o.type) hr s hne hN h63
  unfold Oper.wp execOp
  simp only [ho, resolve, invoke, builtin, Sem.run_bind, Sem.run_pure, Result.andThen_ok, List.map_toArray, List.map_cons, List.map_nil, hs, hx, hrun, Oper.upon]
  exact h v' w' h2 h3
end Go.Proofs.YtcpgbekcbaelpaaGreatDoor
/- The reference's bytes: a value's bytes behind others. -/
namespace Go.Proofs.YtcpgbekcbaelpaaGreatDoor
open Go.RowKit Go.Maps Wr
set_option linter.unusedVariables false

theorem bytes_data (l : List UInt8) : (bytes l).data.toList = l := by simp [bytes]
theorem num_pos (n : Int) : 0 < (bytes (num n)).size := by
  rw [bytes_size]; have := num_ne n; cases h : num n; exact absurd h this; simp
set_option maxRecDepth 100000 in
theorem refStr_any (s : ByteArray) (w : World) (hs : s.size ≤ 1000000000) : Calls Tryz.prog 61 #[.string s] w fun e w' => e = .returned (.string (bytes (str s.data.toList))) ∧ Below w.heap.size w w' := by
  have hn := Lib.hid (refNum_any (s.size : Int) w (by omega) (by omega))
  have hnl := Lib.hid (num_len (n := (s.size : Int)) (by omega) (by omega))
  have hno : ¬ 9223372036854775807 < (bytes (num (s.size : Int))).size + s.size := by rw [bytes_size]; have := hnl.out; omega
  have hs2 : (s.size : Int) ≤ 1000000000 := by omega
  go_enter Tryz.func61, Tryz.ntmps61
  go_wp2_with ((go_at_call 58; refine hn.out.mono ?_; rintro e w5 ⟨rfl, hb5⟩))
  go_ret
  refine ⟨ret_str ?_, hb5⟩
  apply Go.WideShapes.bytes_inj
  simp [bytes, str]

section
variable (k : Nat) (ih : ∀ (t : VT) (vt : Value) (w : World) (P : Nat → Prop) (d : Int) (N : Nat) (v : Value) (b : List UInt8), t.sz ≤ k → t.right d = true → ValIs w P t vt → (∀ x, P x → x < w.heap.size ∧ v.ownBlock ≠ some x) → ByteRow w N v b → N ≤ w.heap.size → b.length ≤ 100000 →
    Calls Tryz.prog 81 #[v, vt] w (PutEnd w N v (t.put 32768 b)))
include ih in
set_option maxRecDepth 100000 in
set_option maxHeartbeats 3200000 in
theorem bytes_6 (na : Int) (sa : ByteArray) (la : List VT) (w : World) (P : Nat → Prop) (d : Int) (N : Nat) (v : Value) (b : List UInt8) (ao : Option Addr) (cap : Nat) (hk : (VT.node 6 na sa la).sz ≤ k + 1) (hr : (VT.node 6 na sa la).right d = true)
    (a1 : la.length ≤ cap) (a2 : cap ≤ maxLen) (a7 : KidsAt w P la ao 0) (hP : ∀ x, P x → x < w.heap.size ∧ v.ownBlock ≠ some x) (hrow : ByteRow w N v b) (hN : N ≤ w.heap.size) (hb : b.length ≤ 32768) :
    Calls Tryz.prog 81 #[v, .agg #[.int .i64 6, .int .i64 na, .string sa, .slice ao la.length cap]] w (PutEnd w N v ((VT.node 6 na sa la).put 32768 b)) := by
  obtain ⟨hf, hrs', hd⟩ := VT.right_parts hr
  have hrs := Lib.hid hrs'
  have HR := Lib.hid hrow
  obtain ⟨ao0, cap0, rfl, hc0, hc1⟩ := hrow.form
  unfold maxLen at a2 hc1
  have hfp := fits_parts hf
  have HT := Lib.hid (topOf_len hf)
  have hpt : Hid ((VT.node 6 na sa la).put 32768 b = VT.puts 32768 la (b ++ num 6 ++ topOf 6 na sa la.length)) := by show _ = _; rw [VT.put_node, if_neg (by omega)]
  have HB1 : Hid (ByteRow (w.alloc (.cells #[.int .i64 6, .int .i64 na, .string sa, .slice ao la.length cap] 33)) N (.slice ao0 b.length cap0) b) := hrow.below ((Below.refl _ _).alloc (Nat.le_refl _) _)
  have hnk := Lib.hid (num_len (n := 6) (by omega) (by omega))
  have hnkp := Lib.hid (num_pos 6)
  have hnks : Hid ((bytes (num 6)).size = (num 6).length) := bytes_size _
  have HNK : Hid (∀ W, Calls Tryz.prog 58 #[.int .i64 6] W fun e w' => e = .returned (.string (bytes (num 6))) ∧ Below W.heap.size W w') := fun W => refNum_any 6 W (by omega) (by omega)
  have hvo : Hid ((Value.slice ao0 b.length cap0).ownBlock ≠ some w.heap.size) := fun e => by have := HR.out.lt e; omega
  clear hrow hr hrs'
  have hb2 : (b.length : Int) ≤ 32768 := by omega
  go_enter Tryz.func81, Tryz.ntmps81
  go_wp2_with
    (first
     | ((go_at_call 58; refine (HNK.out _).mono ?_; rintro e w5 ⟨rfl, hb5⟩; have B5 := Lib.hid hb5; clear hb5 HNK))
     | (at_builtin; (refine wpList_apps (w := w5) rfl _ _ rfl (v := .slice ao0 b.length cap0) rfl (HB1.out.below B5.out) (s := bytes (num 6)) rfl hnkp.out (by have := B5.out.size; simp at this; omega) (by have := hnk.out; have := hnks.out; omega) ?_; intro v6 w6 hr6 ho6; rw [bytes_data] at hr6; have R6 := Lib.hid hr6; have O6 : Hid (OwnStep _ _ w6 v6) := (OwnStep.made _ B5.out).trans ho6; clear hr6 ho6; clear HB1; obtain ⟨c60, c61, c62, c63⟩ := box_cells O6.out hvo.out)))
  have hbz : Hid ((b ++ num 6 ++ topOf 6 na sa la.length).length ≤ 100000) := by have := hnk.out; have := HT.out; show _ ≤ 100000; rw [List.length_append, List.length_append]; omega
  have RZ : Hid (ByteRow w6 N v6 (b ++ num 6 ++ topOf 6 na sa la.length)) := by
    have e : topOf 6 na sa la.length = [] := by simp [topOf]
    show ByteRow _ _ _ _
    rw [e, List.append_nil]; exact R6.out
  have HL : Hid (PutLoop N w6 v6 32768 la (b ++ num 6 ++ topOf 6 na sa la.length) la.length v6 (.int .i64 0) w6) := ⟨0, (b ++ num 6 ++ topOf 6 na sa la.length), rfl, by omega, RZ.out, rfl, hbz.out, OwnStep.refl _ _⟩
  go_loopg [0, 5] la.length (fun k s0 s1 wr => PutLoop N w6 v6 32768 la (b ++ num 6 ++ topOf 6 na sa la.length) k s0 s1 wr)
  case atStart => exact HL.out
  case round =>
    clear HL
    obtain ⟨i, b', rfl, hik, hrow, hput, hbl, hown⟩ := hrel
    have HROW := Lib.hid hrow
    have HPUT := Lib.hid hput
    have HBL := Lib.hid hbl
    have HOWN := Lib.hid hown
    have OW : Hid (OwnStep (w.alloc (.cells #[.int .i64 6, .int .i64 na, .string sa, .slice ao la.length cap] 33)) (.slice ao0 b.length cap0) wr u0) := O6.out.trans hown
    clear hrow hput hbl hown
    obtain ⟨e0, e1, e2, e3⟩ := box_cells OW.out hvo.out
    by_cases hlt : i < la.length
    · obtain ⟨tk, htk⟩ : ∃ u, la[i]? = some u := ⟨_, List.getElem?_eq_getElem hlt⟩
      obtain ⟨bb, oo, _, _, _, _, rfl, hbb, _⟩ := a7.get htk
      obtain ⟨_, aok, capk, p0, p1, p2, p3, hvk⟩ := a7.cells htk
      unfold vval at hvk
      rw [Nat.zero_add] at p0 p1 p2 p3
      have hbb' := hP _ hbb
      have hblk : wr.heap[bb]? = w.heap[bb]? := (OW.out.block (by simp; omega) hbb'.2).trans (heap_alloc_old _ _ hbb'.1)
      have cc : ∀ j, wr.cell? ⟨bb, j, none⟩ = w.cell? ⟨bb, j, none⟩ := fun j => by simp [World.cell?, hblk]
      replace p0 := (cc _).trans p0
      replace p1 := (cc _).trans p1
      replace p2 := (cc _).trans p2
      replace p3 := (cc _).trans p3
      have hvk' : Hid (ValIs wr P tk (.agg #[.int .i64 tk.kind, .int .i64 tk.num, .string tk.text, .slice aok tk.kids.length capk])) := (hvk.below ((Below.refl _ _).alloc (Nat.le_refl _) _) (fun b hb => (hP b hb).1)).own OW.out (fun b hb => ⟨by have := (hP b hb).1; simp; omega, (hP b hb).2⟩)
      have HPB : Hid (∀ x, P x → x < wr.heap.size ∧ u0.ownBlock ≠ some x) := fun x hx => ⟨by have := (hP x hx).1; have := OW.out.size; simp at this; omega, OW.out.apart (by have := (hP x hx).1; simp; omega) (hP x hx).2⟩
      have hkid : Hid (tk.sz ≤ k) := by
        have h5 : tk.sz < (VT.node 6 na sa la).sz := VT.sz_kid (t := VT.node 6 na sa la) htk
        show tk.sz ≤ k; omega
      have hrk := Lib.hid (VT.rights_get hrs.out htk)
      have hdrop := Lib.hid (VT.drop_kid htk)
      have g1' : (i : Int) < (la.length : Int) := by omega
      have hi0 : (0 : Int) ≤ (i : Int) := by omega
      have hNr : Hid (N ≤ wr.heap.size) := by have := OW.out.size; simp at this; show N ≤ wr.heap.size; omega
      clear hvk htk cc hblk
      go_wp2_with ((go_at_call 81; refine (ih tk _ _ P (d + 1) N u0 b' hkid.out hrk.out hvk'.out HPB.out HROW.out hNr.out HBL.out).mono ?_; rintro e w7 ⟨v7, rfl, hr7, ho7⟩; have HR7 := Lib.hid hr7; have HO7 := Lib.hid ho7; clear hr7 ho7))
      go_roundg (gk - 1)
      case measure => omega
      case rel => exact ⟨i + 1, _, by go_num, by omega, HR7.out, by rw [HPUT.out, hdrop.out, VT.puts_cons], by have := VT.put_len (L := 32768) tk b' (d + 1) hrk.out; have := HBL.out; omega, HOWN.out.trans HO7.out⟩
    · obtain rfl : i = la.length := by omega
      go_wp2
      go_ret
      refine PutEnd.boxed (o := .cells #[.int .i64 6, .int .i64 na, .string sa, .slice ao la.length cap] 33) ⟨_, rfl, ?_, OW.out⟩ (fun k hk => HR.out.lt hk)
      rw [hpt.out, HPUT.out, List.drop_length, VT.puts_nil]
      exact HROW.out

include ih in
set_option maxRecDepth 100000 in
set_option maxHeartbeats 3200000 in
theorem bytes_0 (na : Int) (sa : ByteArray) (la : List VT) (w : World) (P : Nat → Prop) (d : Int) (N : Nat) (v : Value) (b : List UInt8) (ao : Option Addr) (cap : Nat) (hk : (VT.node 0 na sa la).sz ≤ k + 1) (hr : (VT.node 0 na sa la).right d = true)
    (a1 : la.length ≤ cap) (a2 : cap ≤ maxLen) (a7 : KidsAt w P la ao 0) (hP : ∀ x, P x → x < w.heap.size ∧ v.ownBlock ≠ some x) (hrow : ByteRow w N v b) (hN : N ≤ w.heap.size) (hb : b.length ≤ 32768) :
    Calls Tryz.prog 81 #[v, .agg #[.int .i64 0, .int .i64 na, .string sa, .slice ao la.length cap]] w (PutEnd w N v ((VT.node 0 na sa la).put 32768 b)) := by
  obtain ⟨hf, hrs', hd⟩ := VT.right_parts hr
  have hrs := Lib.hid hrs'
  have HR := Lib.hid hrow
  obtain ⟨ao0, cap0, rfl, hc0, hc1⟩ := hrow.form
  unfold maxLen at a2 hc1
  have hfp := fits_parts hf
  have HT := Lib.hid (topOf_len hf)
  have hpt : Hid ((VT.node 0 na sa la).put 32768 b = VT.puts 32768 la (b ++ num 0 ++ topOf 0 na sa la.length)) := by show _ = _; rw [VT.put_node, if_neg (by omega)]
  have HB1 : Hid (ByteRow (w.alloc (.cells #[.int .i64 0, .int .i64 na, .string sa, .slice ao la.length cap] 33)) N (.slice ao0 b.length cap0) b) := hrow.below ((Below.refl _ _).alloc (Nat.le_refl _) _)
  have hnk := Lib.hid (num_len (n := 0) (by omega) (by omega))
  have hnkp := Lib.hid (num_pos 0)
  have hnks : Hid ((bytes (num 0)).size = (num 0).length) := bytes_size _
  have HNK : Hid (∀ W, Calls Tryz.prog 58 #[.int .i64 0] W fun e w' => e = .returned (.string (bytes (num 0))) ∧ Below W.heap.size W w') := fun W => refNum_any 0 W (by omega) (by omega)
  have hvo : Hid ((Value.slice ao0 b.length cap0).ownBlock ≠ some w.heap.size) := fun e => by have := HR.out.lt e; omega
  clear hrow hr hrs'
  have hb2 : (b.length : Int) ≤ 32768 := by omega
  have hna := Lib.hid (num_len (n := na) (by omega) (by omega))
  have hnap := Lib.hid (num_pos na)
  have hnas : Hid ((bytes (num na)).size = (num na).length) := bytes_size _
  have HNA : Hid (∀ W, Calls Tryz.prog 58 #[.int .i64 na] W fun e w' => e = .returned (.string (bytes (num na))) ∧ Below W.heap.size W w') := fun W => refNum_any na W (by omega) (by omega)
  go_enter Tryz.func81, Tryz.ntmps81
  go_wp2_with
    (first
     | ((go_at_call 58; refine (HNK.out _).mono ?_; rintro e w5 ⟨rfl, hb5⟩; have B5 := Lib.hid hb5; clear hb5 HNK))
     | ((go_at_call 58; refine (HNA.out _).mono ?_; rintro e w7 ⟨rfl, hb7⟩; have B7 := Lib.hid hb7; clear hb7))
     | (at_builtin; (refine wpList_apps (w := w5) rfl _ _ rfl (v := .slice ao0 b.length cap0) rfl (HB1.out.below B5.out) (s := bytes (num 0)) rfl hnkp.out (by have := B5.out.size; simp at this; omega) (by have := hnk.out; have := hnks.out; omega) ?_; intro v6 w6 hr6 ho6; rw [bytes_data] at hr6; have R6 := Lib.hid hr6; have O6 : Hid (OwnStep _ _ w6 v6) := (OwnStep.made _ B5.out).trans ho6; clear hr6 ho6; clear HB1; obtain ⟨c60, c61, c62, c63⟩ := box_cells O6.out hvo.out))
     | (at_builtin; (refine wpList_apps (w := w7) rfl _ _ rfl (v := v6) rfl (R6.out.below B7.out) (s := bytes (num na)) rfl hnap.out (by have := B7.out.size; have := O6.out.size; simp at this; omega) (by have := hnk.out; have := hna.out; have := hnas.out; rw [List.length_append]; omega) ?_; intro v8 w8 hr8 ho8; rw [bytes_data] at hr8; have R8 := Lib.hid hr8; have O8 : Hid (OwnStep _ _ w8 v8) := O6.out.trans ((OwnStep.made _ B7.out).trans ho8); clear hr8 ho8; obtain ⟨c80, c81, c82, c83⟩ := box_cells O8.out hvo.out)))
  have e : topOf 0 na sa la.length = num na := by simp [topOf]
  have hbz : Hid ((b ++ num 0 ++ topOf 0 na sa la.length).length ≤ 100000) := by have := hnk.out; have := HT.out; show _ ≤ 100000; rw [List.length_append, List.length_append]; omega
  have RZ : Hid (ByteRow w8 N v8 (b ++ num 0 ++ topOf 0 na sa la.length)) := by show ByteRow _ _ _ _; rw [e]; exact R8.out
  clear e
  have HL : Hid (PutLoop N w8 v8 32768 la (b ++ num 0 ++ topOf 0 na sa la.length) la.length v8 (.int .i64 0) w8) := ⟨0, (b ++ num 0 ++ topOf 0 na sa la.length), rfl, by omega, RZ.out, rfl, hbz.out, OwnStep.refl _ _⟩
  go_loopg [0, 5] la.length (fun k s0 s1 wr => PutLoop N w8 v8 32768 la (b ++ num 0 ++ topOf 0 na sa la.length) k s0 s1 wr)
  case atStart => exact HL.out
  case round =>
    clear HL
    obtain ⟨i, b', rfl, hik, hrow, hput, hbl, hown⟩ := hrel
    have HROW := Lib.hid hrow
    have HPUT := Lib.hid hput
    have HBL := Lib.hid hbl
    have HOWN := Lib.hid hown
    have OW : Hid (OwnStep (w.alloc (.cells #[.int .i64 0, .int .i64 na, .string sa, .slice ao la.length cap] 33)) (.slice ao0 b.length cap0) wr u0) := O8.out.trans hown
    clear hrow hput hbl hown
    obtain ⟨e0, e1, e2, e3⟩ := box_cells OW.out hvo.out
    by_cases hlt : i < la.length
    · obtain ⟨tk, htk⟩ : ∃ u, la[i]? = some u := ⟨_, List.getElem?_eq_getElem hlt⟩
      obtain ⟨bb, oo, _, _, _, _, rfl, hbb, _⟩ := a7.get htk
      obtain ⟨_, aok, capk, p0, p1, p2, p3, hvk⟩ := a7.cells htk
      unfold vval at hvk
      rw [Nat.zero_add] at p0 p1 p2 p3
      have hbb' := hP _ hbb
      have hblk : wr.heap[bb]? = w.heap[bb]? := (OW.out.block (by simp; omega) hbb'.2).trans (heap_alloc_old _ _ hbb'.1)
      have cc : ∀ j, wr.cell? ⟨bb, j, none⟩ = w.cell? ⟨bb, j, none⟩ := fun j => by simp [World.cell?, hblk]
      replace p0 := (cc _).trans p0
      replace p1 := (cc _).trans p1
      replace p2 := (cc _).trans p2
      replace p3 := (cc _).trans p3
      have hvk' : Hid (ValIs wr P tk (.agg #[.int .i64 tk.kind, .int .i64 tk.num, .string tk.text, .slice aok tk.kids.length capk])) := (hvk.below ((Below.refl _ _).alloc (Nat.le_refl _) _) (fun b hb => (hP b hb).1)).own OW.out (fun b hb => ⟨by have := (hP b hb).1; simp; omega, (hP b hb).2⟩)
      have HPB : Hid (∀ x, P x → x < wr.heap.size ∧ u0.ownBlock ≠ some x) := fun x hx => ⟨by have := (hP x hx).1; have := OW.out.size; simp at this; omega, OW.out.apart (by have := (hP x hx).1; simp; omega) (hP x hx).2⟩
      have hkid : Hid (tk.sz ≤ k) := by
        have h5 : tk.sz < (VT.node 0 na sa la).sz := VT.sz_kid (t := VT.node 0 na sa la) htk
        show tk.sz ≤ k; omega
      have hrk := Lib.hid (VT.rights_get hrs.out htk)
      have hdrop := Lib.hid (VT.drop_kid htk)
      have g1' : (i : Int) < (la.length : Int) := by omega
      have hi0 : (0 : Int) ≤ (i : Int) := by omega
      have hNr : Hid (N ≤ wr.heap.size) := by have := OW.out.size; simp at this; show N ≤ wr.heap.size; omega
      clear hvk htk cc hblk
      go_wp2_with ((go_at_call 81; refine (ih tk _ _ P (d + 1) N u0 b' hkid.out hrk.out hvk'.out HPB.out HROW.out hNr.out HBL.out).mono ?_; rintro e w7 ⟨v7, rfl, hr7, ho7⟩; have HR7 := Lib.hid hr7; have HO7 := Lib.hid ho7; clear hr7 ho7))
      go_roundg (gk - 1)
      case measure => omega
      case rel => exact ⟨i + 1, _, by go_num, by omega, HR7.out, by rw [HPUT.out, hdrop.out, VT.puts_cons], by have := VT.put_len (L := 32768) tk b' (d + 1) hrk.out; have := HBL.out; omega, HOWN.out.trans HO7.out⟩
    · obtain rfl : i = la.length := by omega
      go_wp2
      go_ret
      refine PutEnd.boxed (o := .cells #[.int .i64 0, .int .i64 na, .string sa, .slice ao la.length cap] 33) ⟨_, rfl, ?_, OW.out⟩ (fun k hk => HR.out.lt hk)
      rw [hpt.out, HPUT.out, List.drop_length, VT.puts_nil]
      exact HROW.out

include ih in
set_option maxRecDepth 100000 in
set_option maxHeartbeats 3200000 in
theorem bytes_5 (na : Int) (sa : ByteArray) (la : List VT) (w : World) (P : Nat → Prop) (d : Int) (N : Nat) (v : Value) (b : List UInt8) (ao : Option Addr) (cap : Nat) (hk : (VT.node 5 na sa la).sz ≤ k + 1) (hr : (VT.node 5 na sa la).right d = true)
    (a1 : la.length ≤ cap) (a2 : cap ≤ maxLen) (a7 : KidsAt w P la ao 0) (hP : ∀ x, P x → x < w.heap.size ∧ v.ownBlock ≠ some x) (hrow : ByteRow w N v b) (hN : N ≤ w.heap.size) (hb : b.length ≤ 32768) :
    Calls Tryz.prog 81 #[v, .agg #[.int .i64 5, .int .i64 na, .string sa, .slice ao la.length cap]] w (PutEnd w N v ((VT.node 5 na sa la).put 32768 b)) := by
  obtain ⟨hf, hrs', hd⟩ := VT.right_parts hr
  have hrs := Lib.hid hrs'
  have HR := Lib.hid hrow
  obtain ⟨ao0, cap0, rfl, hc0, hc1⟩ := hrow.form
  unfold maxLen at a2 hc1
  have hfp := fits_parts hf
  have HT := Lib.hid (topOf_len hf)
  have hpt : Hid ((VT.node 5 na sa la).put 32768 b = VT.puts 32768 la (b ++ num 5 ++ topOf 5 na sa la.length)) := by show _ = _; rw [VT.put_node, if_neg (by omega)]
  have HB1 : Hid (ByteRow (w.alloc (.cells #[.int .i64 5, .int .i64 na, .string sa, .slice ao la.length cap] 33)) N (.slice ao0 b.length cap0) b) := hrow.below ((Below.refl _ _).alloc (Nat.le_refl _) _)
  have hnk := Lib.hid (num_len (n := 5) (by omega) (by omega))
  have hnkp := Lib.hid (num_pos 5)
  have hnks : Hid ((bytes (num 5)).size = (num 5).length) := bytes_size _
  have HNK : Hid (∀ W, Calls Tryz.prog 58 #[.int .i64 5] W fun e w' => e = .returned (.string (bytes (num 5))) ∧ Below W.heap.size W w') := fun W => refNum_any 5 W (by omega) (by omega)
  have hvo : Hid ((Value.slice ao0 b.length cap0).ownBlock ≠ some w.heap.size) := fun e => by have := HR.out.lt e; omega
  clear hrow hr hrs'
  have hb2 : (b.length : Int) ≤ 32768 := by omega
  have hna := Lib.hid (num_len (n := na) (by omega) (by omega))
  have hnap := Lib.hid (num_pos na)
  have hnas : Hid ((bytes (num na)).size = (num na).length) := bytes_size _
  have HNA : Hid (∀ W, Calls Tryz.prog 58 #[.int .i64 na] W fun e w' => e = .returned (.string (bytes (num na))) ∧ Below W.heap.size W w') := fun W => refNum_any na W (by omega) (by omega)
  go_enter Tryz.func81, Tryz.ntmps81
  go_wp2_with
    (first
     | ((go_at_call 58; refine (HNK.out _).mono ?_; rintro e w5 ⟨rfl, hb5⟩; have B5 := Lib.hid hb5; clear hb5 HNK))
     | ((go_at_call 58; refine (HNA.out _).mono ?_; rintro e w7 ⟨rfl, hb7⟩; have B7 := Lib.hid hb7; clear hb7))
     | (at_builtin; (refine wpList_apps (w := w5) rfl _ _ rfl (v := .slice ao0 b.length cap0) rfl (HB1.out.below B5.out) (s := bytes (num 5)) rfl hnkp.out (by have := B5.out.size; simp at this; omega) (by have := hnk.out; have := hnks.out; omega) ?_; intro v6 w6 hr6 ho6; rw [bytes_data] at hr6; have R6 := Lib.hid hr6; have O6 : Hid (OwnStep _ _ w6 v6) := (OwnStep.made _ B5.out).trans ho6; clear hr6 ho6; clear HB1; obtain ⟨c60, c61, c62, c63⟩ := box_cells O6.out hvo.out))
     | (at_builtin; (refine wpList_apps (w := w7) rfl _ _ rfl (v := v6) rfl (R6.out.below B7.out) (s := bytes (num na)) rfl hnap.out (by have := B7.out.size; have := O6.out.size; simp at this; omega) (by have := hnk.out; have := hna.out; have := hnas.out; rw [List.length_append]; omega) ?_; intro v8 w8 hr8 ho8; rw [bytes_data] at hr8; have R8 := Lib.hid hr8; have O8 : Hid (OwnStep _ _ w8 v8) := O6.out.trans ((OwnStep.made _ B7.out).trans ho8); clear hr8 ho8; obtain ⟨c80, c81, c82, c83⟩ := box_cells O8.out hvo.out)))
  have e : topOf 5 na sa la.length = num na := by simp [topOf]
  have hbz : Hid ((b ++ num 5 ++ topOf 5 na sa la.length).length ≤ 100000) := by have := hnk.out; have := HT.out; show _ ≤ 100000; rw [List.length_append, List.length_append]; omega
  have RZ : Hid (ByteRow w8 N v8 (b ++ num 5 ++ topOf 5 na sa la.length)) := by show ByteRow _ _ _ _; rw [e]; exact R8.out
  clear e
  have HL : Hid (PutLoop N w8 v8 32768 la (b ++ num 5 ++ topOf 5 na sa la.length) la.length v8 (.int .i64 0) w8) := ⟨0, (b ++ num 5 ++ topOf 5 na sa la.length), rfl, by omega, RZ.out, rfl, hbz.out, OwnStep.refl _ _⟩
  go_loopg [0, 5] la.length (fun k s0 s1 wr => PutLoop N w8 v8 32768 la (b ++ num 5 ++ topOf 5 na sa la.length) k s0 s1 wr)
  case atStart => exact HL.out
  case round =>
    clear HL
    obtain ⟨i, b', rfl, hik, hrow, hput, hbl, hown⟩ := hrel
    have HROW := Lib.hid hrow
    have HPUT := Lib.hid hput
    have HBL := Lib.hid hbl
    have HOWN := Lib.hid hown
    have OW : Hid (OwnStep (w.alloc (.cells #[.int .i64 5, .int .i64 na, .string sa, .slice ao la.length cap] 33)) (.slice ao0 b.length cap0) wr u0) := O8.out.trans hown
    clear hrow hput hbl hown
    obtain ⟨e0, e1, e2, e3⟩ := box_cells OW.out hvo.out
    by_cases hlt : i < la.length
    · obtain ⟨tk, htk⟩ : ∃ u, la[i]? = some u := ⟨_, List.getElem?_eq_getElem hlt⟩
      obtain ⟨bb, oo, _, _, _, _, rfl, hbb, _⟩ := a7.get htk
      obtain ⟨_, aok, capk, p0, p1, p2, p3, hvk⟩ := a7.cells htk
      unfold vval at hvk
      rw [Nat.zero_add] at p0 p1 p2 p3
      have hbb' := hP _ hbb
      have hblk : wr.heap[bb]? = w.heap[bb]? := (OW.out.block (by simp; omega) hbb'.2).trans (heap_alloc_old _ _ hbb'.1)
      have cc : ∀ j, wr.cell? ⟨bb, j, none⟩ = w.cell? ⟨bb, j, none⟩ := fun j => by simp [World.cell?, hblk]
      replace p0 := (cc _).trans p0
      replace p1 := (cc _).trans p1
      replace p2 := (cc _).trans p2
      replace p3 := (cc _).trans p3
      have hvk' : Hid (ValIs wr P tk (.agg #[.int .i64 tk.kind, .int .i64 tk.num, .string tk.text, .slice aok tk.kids.length capk])) := (hvk.below ((Below.refl _ _).alloc (Nat.le_refl _) _) (fun b hb => (hP b hb).1)).own OW.out (fun b hb => ⟨by have := (hP b hb).1; simp; omega, (hP b hb).2⟩)
      have HPB : Hid (∀ x, P x → x < wr.heap.size ∧ u0.ownBlock ≠ some x) := fun x hx => ⟨by have := (hP x hx).1; have := OW.out.size; simp at this; omega, OW.out.apart (by have := (hP x hx).1; simp; omega) (hP x hx).2⟩
      have hkid : Hid (tk.sz ≤ k) := by
        have h5 : tk.sz < (VT.node 5 na sa la).sz := VT.sz_kid (t := VT.node 5 na sa la) htk
        show tk.sz ≤ k; omega
      have hrk := Lib.hid (VT.rights_get hrs.out htk)
      have hdrop := Lib.hid (VT.drop_kid htk)
      have g1' : (i : Int) < (la.length : Int) := by omega
      have hi0 : (0 : Int) ≤ (i : Int) := by omega
      have hNr : Hid (N ≤ wr.heap.size) := by have := OW.out.size; simp at this; show N ≤ wr.heap.size; omega
      clear hvk htk cc hblk
      go_wp2_with ((go_at_call 81; refine (ih tk _ _ P (d + 1) N u0 b' hkid.out hrk.out hvk'.out HPB.out HROW.out hNr.out HBL.out).mono ?_; rintro e w7 ⟨v7, rfl, hr7, ho7⟩; have HR7 := Lib.hid hr7; have HO7 := Lib.hid ho7; clear hr7 ho7))
      go_roundg (gk - 1)
      case measure => omega
      case rel => exact ⟨i + 1, _, by go_num, by omega, HR7.out, by rw [HPUT.out, hdrop.out, VT.puts_cons], by have := VT.put_len (L := 32768) tk b' (d + 1) hrk.out; have := HBL.out; omega, HOWN.out.trans HO7.out⟩
    · obtain rfl : i = la.length := by omega
      go_wp2
      go_ret
      refine PutEnd.boxed (o := .cells #[.int .i64 5, .int .i64 na, .string sa, .slice ao la.length cap] 33) ⟨_, rfl, ?_, OW.out⟩ (fun k hk => HR.out.lt hk)
      rw [hpt.out, HPUT.out, List.drop_length, VT.puts_nil]
      exact HROW.out

include ih in
set_option maxRecDepth 100000 in
set_option maxHeartbeats 3200000 in
theorem bytes_4 (na : Int) (sa : ByteArray) (la : List VT) (w : World) (P : Nat → Prop) (d : Int) (N : Nat) (v : Value) (b : List UInt8) (ao : Option Addr) (cap : Nat) (hk : (VT.node 4 na sa la).sz ≤ k + 1) (hr : (VT.node 4 na sa la).right d = true)
    (a1 : la.length ≤ cap) (a2 : cap ≤ maxLen) (a7 : KidsAt w P la ao 0) (hP : ∀ x, P x → x < w.heap.size ∧ v.ownBlock ≠ some x) (hrow : ByteRow w N v b) (hN : N ≤ w.heap.size) (hb : b.length ≤ 32768) :
    Calls Tryz.prog 81 #[v, .agg #[.int .i64 4, .int .i64 na, .string sa, .slice ao la.length cap]] w (PutEnd w N v ((VT.node 4 na sa la).put 32768 b)) := by
  obtain ⟨hf, hrs', hd⟩ := VT.right_parts hr
  have hrs := Lib.hid hrs'
  have HR := Lib.hid hrow
  obtain ⟨ao0, cap0, rfl, hc0, hc1⟩ := hrow.form
  unfold maxLen at a2 hc1
  have hfp := fits_parts hf
  have HT := Lib.hid (topOf_len hf)
  have hpt : Hid ((VT.node 4 na sa la).put 32768 b = VT.puts 32768 la (b ++ num 4 ++ topOf 4 na sa la.length)) := by show _ = _; rw [VT.put_node, if_neg (by omega)]
  have HB1 : Hid (ByteRow (w.alloc (.cells #[.int .i64 4, .int .i64 na, .string sa, .slice ao la.length cap] 33)) N (.slice ao0 b.length cap0) b) := hrow.below ((Below.refl _ _).alloc (Nat.le_refl _) _)
  have hnk := Lib.hid (num_len (n := 4) (by omega) (by omega))
  have hnkp := Lib.hid (num_pos 4)
  have hnks : Hid ((bytes (num 4)).size = (num 4).length) := bytes_size _
  have HNK : Hid (∀ W, Calls Tryz.prog 58 #[.int .i64 4] W fun e w' => e = .returned (.string (bytes (num 4))) ∧ Below W.heap.size W w') := fun W => refNum_any 4 W (by omega) (by omega)
  have hvo : Hid ((Value.slice ao0 b.length cap0).ownBlock ≠ some w.heap.size) := fun e => by have := HR.out.lt e; omega
  clear hrow hr hrs'
  have hb2 : (b.length : Int) ≤ 32768 := by omega
  have hna := Lib.hid (num_len (n := (la.length : Int)) (by omega) (by omega))
  have hnap := Lib.hid (num_pos (la.length : Int))
  have hnas : Hid ((bytes (num (la.length : Int))).size = (num (la.length : Int)).length) := bytes_size _
  have HNA : Hid (∀ W, Calls Tryz.prog 58 #[.int .i64 (la.length : Int)] W fun e w' => e = .returned (.string (bytes (num (la.length : Int)))) ∧ Below W.heap.size W w') := fun W => refNum_any (la.length : Int) W (by omega) (by omega)
  go_enter Tryz.func81, Tryz.ntmps81
  go_wp2_with
    (first
     | ((go_at_call 58; refine (HNK.out _).mono ?_; rintro e w5 ⟨rfl, hb5⟩; have B5 := Lib.hid hb5; clear hb5 HNK))
     | ((go_at_call 58; refine (HNA.out _).mono ?_; rintro e w7 ⟨rfl, hb7⟩; have B7 := Lib.hid hb7; clear hb7))
     | (at_builtin; (refine wpList_apps (w := w5) rfl _ _ rfl (v := .slice ao0 b.length cap0) rfl (HB1.out.below B5.out) (s := bytes (num 4)) rfl hnkp.out (by have := B5.out.size; simp at this; omega) (by have := hnk.out; have := hnks.out; omega) ?_; intro v6 w6 hr6 ho6; rw [bytes_data] at hr6; have R6 := Lib.hid hr6; have O6 : Hid (OwnStep _ _ w6 v6) := (OwnStep.made _ B5.out).trans ho6; clear hr6 ho6; clear HB1; obtain ⟨c60, c61, c62, c63⟩ := box_cells O6.out hvo.out))
     | (at_builtin; (refine wpList_apps (w := w7) rfl _ _ rfl (v := v6) rfl (R6.out.below B7.out) (s := bytes (num (la.length : Int))) rfl hnap.out (by have := B7.out.size; have := O6.out.size; simp at this; omega) (by have := hnk.out; have := hna.out; have := hnas.out; rw [List.length_append]; omega) ?_; intro v8 w8 hr8 ho8; rw [bytes_data] at hr8; have R8 := Lib.hid hr8; have O8 : Hid (OwnStep _ _ w8 v8) := O6.out.trans ((OwnStep.made _ B7.out).trans ho8); clear hr8 ho8; obtain ⟨c80, c81, c82, c83⟩ := box_cells O8.out hvo.out)))
  have e : topOf 4 na sa la.length = num (la.length : Int) := by simp [topOf]
  have hbz : Hid ((b ++ num 4 ++ topOf 4 na sa la.length).length ≤ 100000) := by have := hnk.out; have := HT.out; show _ ≤ 100000; rw [List.length_append, List.length_append]; omega
  have RZ : Hid (ByteRow w8 N v8 (b ++ num 4 ++ topOf 4 na sa la.length)) := by show ByteRow _ _ _ _; rw [e]; exact R8.out
  clear e
  have HL : Hid (PutLoop N w8 v8 32768 la (b ++ num 4 ++ topOf 4 na sa la.length) la.length v8 (.int .i64 0) w8) := ⟨0, (b ++ num 4 ++ topOf 4 na sa la.length), rfl, by omega, RZ.out, rfl, hbz.out, OwnStep.refl _ _⟩
  go_loopg [0, 5] la.length (fun k s0 s1 wr => PutLoop N w8 v8 32768 la (b ++ num 4 ++ topOf 4 na sa la.length) k s0 s1 wr)
  case atStart => exact HL.out
  case round =>
    clear HL
    obtain ⟨i, b', rfl, hik, hrow, hput, hbl, hown⟩ := hrel
    have HROW := Lib.hid hrow
    have HPUT := Lib.hid hput
    have HBL := Lib.hid hbl
    have HOWN := Lib.hid hown
    have OW : Hid (OwnStep (w.alloc (.cells #[.int .i64 4, .int .i64 na, .string sa, .slice ao la.length cap] 33)) (.slice ao0 b.length cap0) wr u0) := O8.out.trans hown
    clear hrow hput hbl hown
    obtain ⟨e0, e1, e2, e3⟩ := box_cells OW.out hvo.out
    by_cases hlt : i < la.length
    · obtain ⟨tk, htk⟩ : ∃ u, la[i]? = some u := ⟨_, List.getElem?_eq_getElem hlt⟩
      obtain ⟨bb, oo, _, _, _, _, rfl, hbb, _⟩ := a7.get htk
      obtain ⟨_, aok, capk, p0, p1, p2, p3, hvk⟩ := a7.cells htk
      unfold vval at hvk
      rw [Nat.zero_add] at p0 p1 p2 p3
      have hbb' := hP _ hbb
      have hblk : wr.heap[bb]? = w.heap[bb]? := (OW.out.block (by simp; omega) hbb'.2).trans (heap_alloc_old _ _ hbb'.1)
      have cc : ∀ j, wr.cell? ⟨bb, j, none⟩ = w.cell? ⟨bb, j, none⟩ := fun j => by simp [World.cell?, hblk]
      replace p0 := (cc _).trans p0
      replace p1 := (cc _).trans p1
      replace p2 := (cc _).trans p2
      replace p3 := (cc _).trans p3
      have hvk' : Hid (ValIs wr P tk (.agg #[.int .i64 tk.kind, .int .i64 tk.num, .string tk.text, .slice aok tk.kids.length capk])) := (hvk.below ((Below.refl _ _).alloc (Nat.le_refl _) _) (fun b hb => (hP b hb).1)).own OW.out (fun b hb => ⟨by have := (hP b hb).1; simp; omega, (hP b hb).2⟩)
      have HPB : Hid (∀ x, P x → x < wr.heap.size ∧ u0.ownBlock ≠ some x) := fun x hx => ⟨by have := (hP x hx).1; have := OW.out.size; simp at this; omega, OW.out.apart (by have := (hP x hx).1; simp; omega) (hP x hx).2⟩
      have hkid : Hid (tk.sz ≤ k) := by
        have h5 : tk.sz < (VT.node 4 na sa la).sz := VT.sz_kid (t := VT.node 4 na sa la) htk
        show tk.sz ≤ k; omega
      have hrk := Lib.hid (VT.rights_get hrs.out htk)
      have hdrop := Lib.hid (VT.drop_kid htk)
      have g1' : (i : Int) < (la.length : Int) := by omega
      have hi0 : (0 : Int) ≤ (i : Int) := by omega
      have hNr : Hid (N ≤ wr.heap.size) := by have := OW.out.size; simp at this; show N ≤ wr.heap.size; omega
      clear hvk htk cc hblk
      go_wp2_with ((go_at_call 81; refine (ih tk _ _ P (d + 1) N u0 b' hkid.out hrk.out hvk'.out HPB.out HROW.out hNr.out HBL.out).mono ?_; rintro e w7 ⟨v7, rfl, hr7, ho7⟩; have HR7 := Lib.hid hr7; have HO7 := Lib.hid ho7; clear hr7 ho7))
      go_roundg (gk - 1)
      case measure => omega
      case rel => exact ⟨i + 1, _, by go_num, by omega, HR7.out, by rw [HPUT.out, hdrop.out, VT.puts_cons], by have := VT.put_len (L := 32768) tk b' (d + 1) hrk.out; have := HBL.out; omega, HOWN.out.trans HO7.out⟩
    · obtain rfl : i = la.length := by omega
      go_wp2
      go_ret
      refine PutEnd.boxed (o := .cells #[.int .i64 4, .int .i64 na, .string sa, .slice ao la.length cap] 33) ⟨_, rfl, ?_, OW.out⟩ (fun k hk => HR.out.lt hk)
      rw [hpt.out, HPUT.out, List.drop_length, VT.puts_nil]
      exact HROW.out

include ih in
set_option maxRecDepth 100000 in
set_option maxHeartbeats 3200000 in
theorem bytes_1 (na : Int) (sa : ByteArray) (la : List VT) (w : World) (P : Nat → Prop) (d : Int) (N : Nat) (v : Value) (b : List UInt8) (ao : Option Addr) (cap : Nat) (hk : (VT.node 1 na sa la).sz ≤ k + 1) (hr : (VT.node 1 na sa la).right d = true)
    (a1 : la.length ≤ cap) (a2 : cap ≤ maxLen) (a7 : KidsAt w P la ao 0) (hP : ∀ x, P x → x < w.heap.size ∧ v.ownBlock ≠ some x) (hrow : ByteRow w N v b) (hN : N ≤ w.heap.size) (hb : b.length ≤ 32768) :
    Calls Tryz.prog 81 #[v, .agg #[.int .i64 1, .int .i64 na, .string sa, .slice ao la.length cap]] w (PutEnd w N v ((VT.node 1 na sa la).put 32768 b)) := by
  obtain ⟨hf, hrs', hd⟩ := VT.right_parts hr
  have hrs := Lib.hid hrs'
  have HR := Lib.hid hrow
  obtain ⟨ao0, cap0, rfl, hc0, hc1⟩ := hrow.form
  unfold maxLen at a2 hc1
  have hfp := fits_parts hf
  have HT := Lib.hid (topOf_len hf)
  have hpt : Hid ((VT.node 1 na sa la).put 32768 b = VT.puts 32768 la (b ++ num 1 ++ topOf 1 na sa la.length)) := by show _ = _; rw [VT.put_node, if_neg (by omega)]
  have HB1 : Hid (ByteRow (w.alloc (.cells #[.int .i64 1, .int .i64 na, .string sa, .slice ao la.length cap] 33)) N (.slice ao0 b.length cap0) b) := hrow.below ((Below.refl _ _).alloc (Nat.le_refl _) _)
  have hnk := Lib.hid (num_len (n := 1) (by omega) (by omega))
  have hnkp := Lib.hid (num_pos 1)
  have hnks : Hid ((bytes (num 1)).size = (num 1).length) := bytes_size _
  have HNK : Hid (∀ W, Calls Tryz.prog 58 #[.int .i64 1] W fun e w' => e = .returned (.string (bytes (num 1))) ∧ Below W.heap.size W w') := fun W => refNum_any 1 W (by omega) (by omega)
  have hvo : Hid ((Value.slice ao0 b.length cap0).ownBlock ≠ some w.heap.size) := fun e => by have := HR.out.lt e; omega
  clear hrow hr hrs'
  have hb2 : (b.length : Int) ≤ 32768 := by omega
  have hna := Lib.hid (str_len (s := sa.data.toList) (by simp; omega))
  have hsl : sa.data.toList.length = sa.size := by simp
  rw [hsl] at hna
  have hnas : Hid ((bytes (str sa.data.toList)).size = (str sa.data.toList).length) := bytes_size _
  have hnap : Hid (0 < (bytes (str sa.data.toList)).size) := by show _ < _; rw [bytes_size]; have := str_ne sa.data.toList; cases h : str sa.data.toList; exact absurd h this; simp
  have HNA : Hid (∀ W, Calls Tryz.prog 61 #[.string sa] W fun e w' => e = .returned (.string (bytes (str sa.data.toList))) ∧ Below W.heap.size W w') := fun W => refStr_any sa W (by omega)
  clear hsl
  go_enter Tryz.func81, Tryz.ntmps81
  go_wp2_with
    (first
     | ((go_at_call 58; refine (HNK.out _).mono ?_; rintro e w5 ⟨rfl, hb5⟩; have B5 := Lib.hid hb5; clear hb5 HNK))
     | ((go_at_call 61; refine (HNA.out _).mono ?_; rintro e w7 ⟨rfl, hb7⟩; have B7 := Lib.hid hb7; clear hb7))
     | (at_builtin; (refine wpList_apps (w := w5) rfl _ _ rfl (v := .slice ao0 b.length cap0) rfl (HB1.out.below B5.out) (s := bytes (num 1)) rfl hnkp.out (by have := B5.out.size; simp at this; omega) (by have := hnk.out; have := hnks.out; omega) ?_; intro v6 w6 hr6 ho6; rw [bytes_data] at hr6; have R6 := Lib.hid hr6; have O6 : Hid (OwnStep _ _ w6 v6) := (OwnStep.made _ B5.out).trans ho6; clear hr6 ho6; clear HB1; obtain ⟨c60, c61, c62, c63⟩ := box_cells O6.out hvo.out))
     | (at_builtin; (refine wpList_apps (w := w7) rfl _ _ rfl (v := v6) rfl (R6.out.below B7.out) (s := bytes (str sa.data.toList)) rfl hnap.out (by have := B7.out.size; have := O6.out.size; simp at this; omega) (by have := hnk.out; have := hna.out; have := hnas.out; rw [List.length_append]; omega) ?_; intro v8 w8 hr8 ho8; rw [bytes_data] at hr8; have R8 := Lib.hid hr8; have O8 : Hid (OwnStep _ _ w8 v8) := O6.out.trans ((OwnStep.made _ B7.out).trans ho8); clear hr8 ho8; obtain ⟨c80, c81, c82, c83⟩ := box_cells O8.out hvo.out)))
  have e : topOf 1 na sa la.length = str sa.data.toList := by simp [topOf]
  have hbz : Hid ((b ++ num 1 ++ topOf 1 na sa la.length).length ≤ 100000) := by have := hnk.out; have := HT.out; show _ ≤ 100000; rw [List.length_append, List.length_append]; omega
  have RZ : Hid (ByteRow w8 N v8 (b ++ num 1 ++ topOf 1 na sa la.length)) := by show ByteRow _ _ _ _; rw [e]; exact R8.out
  clear e
  have HL : Hid (PutLoop N w8 v8 32768 la (b ++ num 1 ++ topOf 1 na sa la.length) la.length v8 (.int .i64 0) w8) := ⟨0, (b ++ num 1 ++ topOf 1 na sa la.length), rfl, by omega, RZ.out, rfl, hbz.out, OwnStep.refl _ _⟩
  go_loopg [0, 5] la.length (fun k s0 s1 wr => PutLoop N w8 v8 32768 la (b ++ num 1 ++ topOf 1 na sa la.length) k s0 s1 wr)
  case atStart => exact HL.out
  case round =>
    clear HL
    obtain ⟨i, b', rfl, hik, hrow, hput, hbl, hown⟩ := hrel
    have HROW := Lib.hid hrow
    have HPUT := Lib.hid hput
    have HBL := Lib.hid hbl
    have HOWN := Lib.hid hown
    have OW : Hid (OwnStep (w.alloc (.cells #[.int .i64 1, .int .i64 na, .string sa, .slice ao la.length cap] 33)) (.slice ao0 b.length cap0) wr u0) := O8.out.trans hown
    clear hrow hput hbl hown
    obtain ⟨e0, e1, e2, e3⟩ := box_cells OW.out hvo.out
    by_cases hlt : i < la.length
    · obtain ⟨tk, htk⟩ : ∃ u, la[i]? = some u := ⟨_, List.getElem?_eq_getElem hlt⟩
      obtain ⟨bb, oo, _, _, _, _, rfl, hbb, _⟩ := a7.get htk
      obtain ⟨_, aok, capk, p0, p1, p2, p3, hvk⟩ := a7.cells htk
      unfold vval at hvk
      rw [Nat.zero_add] at p0 p1 p2 p3
      have hbb' := hP _ hbb
      have hblk : wr.heap[bb]? = w.heap[bb]? := (OW.out.block (by simp; omega) hbb'.2).trans (heap_alloc_old _ _ hbb'.1)
      have cc : ∀ j, wr.cell? ⟨bb, j, none⟩ = w.cell? ⟨bb, j, none⟩ := fun j => by simp [World.cell?, hblk]
      replace p0 := (cc _).trans p0
      replace p1 := (cc _).trans p1
      replace p2 := (cc _).trans p2
      replace p3 := (cc _).trans p3
      have hvk' : Hid (ValIs wr P tk (.agg #[.int .i64 tk.kind, .int .i64 tk.num, .string tk.text, .slice aok tk.kids.length capk])) := (hvk.below ((Below.refl _ _).alloc (Nat.le_refl _) _) (fun b hb => (hP b hb).1)).own OW.out (fun b hb => ⟨by have := (hP b hb).1; simp; omega, (hP b hb).2⟩)
      have HPB : Hid (∀ x, P x → x < wr.heap.size ∧ u0.ownBlock ≠ some x) := fun x hx => ⟨by have := (hP x hx).1; have := OW.out.size; simp at this; omega, OW.out.apart (by have := (hP x hx).1; simp; omega) (hP x hx).2⟩
      have hkid : Hid (tk.sz ≤ k) := by
        have h5 : tk.sz < (VT.node 1 na sa la).sz := VT.sz_kid (t := VT.node 1 na sa la) htk
        show tk.sz ≤ k; omega
      have hrk := Lib.hid (VT.rights_get hrs.out htk)
      have hdrop := Lib.hid (VT.drop_kid htk)
      have g1' : (i : Int) < (la.length : Int) := by omega
      have hi0 : (0 : Int) ≤ (i : Int) := by omega
      have hNr : Hid (N ≤ wr.heap.size) := by have := OW.out.size; simp at this; show N ≤ wr.heap.size; omega
      clear hvk htk cc hblk
      go_wp2_with ((go_at_call 81; refine (ih tk _ _ P (d + 1) N u0 b' hkid.out hrk.out hvk'.out HPB.out HROW.out hNr.out HBL.out).mono ?_; rintro e w7 ⟨v7, rfl, hr7, ho7⟩; have HR7 := Lib.hid hr7; have HO7 := Lib.hid ho7; clear hr7 ho7))
      go_roundg (gk - 1)
      case measure => omega
      case rel => exact ⟨i + 1, _, by go_num, by omega, HR7.out, by rw [HPUT.out, hdrop.out, VT.puts_cons], by have := VT.put_len (L := 32768) tk b' (d + 1) hrk.out; have := HBL.out; omega, HOWN.out.trans HO7.out⟩
    · obtain rfl : i = la.length := by omega
      go_wp2
      go_ret
      refine PutEnd.boxed (o := .cells #[.int .i64 1, .int .i64 na, .string sa, .slice ao la.length cap] 33) ⟨_, rfl, ?_, OW.out⟩ (fun k hk => HR.out.lt hk)
      rw [hpt.out, HPUT.out, List.drop_length, VT.puts_nil]
      exact HROW.out

include ih in
set_option maxRecDepth 100000 in
set_option maxHeartbeats 3200000 in
theorem bytes_2 (na : Int) (sa : ByteArray) (la : List VT) (w : World) (P : Nat → Prop) (d : Int) (N : Nat) (v : Value) (b : List UInt8) (ao : Option Addr) (cap : Nat) (hk : (VT.node 2 na sa la).sz ≤ k + 1) (hr : (VT.node 2 na sa la).right d = true)
    (a1 : la.length ≤ cap) (a2 : cap ≤ maxLen) (a7 : KidsAt w P la ao 0) (hP : ∀ x, P x → x < w.heap.size ∧ v.ownBlock ≠ some x) (hrow : ByteRow w N v b) (hN : N ≤ w.heap.size) (hb : b.length ≤ 32768) :
    Calls Tryz.prog 81 #[v, .agg #[.int .i64 2, .int .i64 na, .string sa, .slice ao la.length cap]] w (PutEnd w N v ((VT.node 2 na sa la).put 32768 b)) := by
  obtain ⟨hf, hrs', hd⟩ := VT.right_parts hr
  have hrs := Lib.hid hrs'
  have HR := Lib.hid hrow
  obtain ⟨ao0, cap0, rfl, hc0, hc1⟩ := hrow.form
  unfold maxLen at a2 hc1
  have hfp := fits_parts hf
  have HT := Lib.hid (topOf_len hf)
  have hpt : Hid ((VT.node 2 na sa la).put 32768 b = VT.puts 32768 la (b ++ num 2 ++ topOf 2 na sa la.length)) := by show _ = _; rw [VT.put_node, if_neg (by omega)]
  have HB1 : Hid (ByteRow (w.alloc (.cells #[.int .i64 2, .int .i64 na, .string sa, .slice ao la.length cap] 33)) N (.slice ao0 b.length cap0) b) := hrow.below ((Below.refl _ _).alloc (Nat.le_refl _) _)
  have hnk := Lib.hid (num_len (n := 2) (by omega) (by omega))
  have hnkp := Lib.hid (num_pos 2)
  have hnks : Hid ((bytes (num 2)).size = (num 2).length) := bytes_size _
  have HNK : Hid (∀ W, Calls Tryz.prog 58 #[.int .i64 2] W fun e w' => e = .returned (.string (bytes (num 2))) ∧ Below W.heap.size W w') := fun W => refNum_any 2 W (by omega) (by omega)
  have hvo : Hid ((Value.slice ao0 b.length cap0).ownBlock ≠ some w.heap.size) := fun e => by have := HR.out.lt e; omega
  clear hrow hr hrs'
  have hb2 : (b.length : Int) ≤ 32768 := by omega
  have hna := Lib.hid (str_len (s := sa.data.toList) (by simp; omega))
  have hsl : sa.data.toList.length = sa.size := by simp
  rw [hsl] at hna
  have hnas : Hid ((bytes (str sa.data.toList)).size = (str sa.data.toList).length) := bytes_size _
  have hnap : Hid (0 < (bytes (str sa.data.toList)).size) := by show _ < _; rw [bytes_size]; have := str_ne sa.data.toList; cases h : str sa.data.toList; exact absurd h this; simp
  have HNA : Hid (∀ W, Calls Tryz.prog 61 #[.string sa] W fun e w' => e = .returned (.string (bytes (str sa.data.toList))) ∧ Below W.heap.size W w') := fun W => refStr_any sa W (by omega)
  clear hsl
  go_enter Tryz.func81, Tryz.ntmps81
  go_wp2_with
    (first
     | ((go_at_call 58; refine (HNK.out _).mono ?_; rintro e w5 ⟨rfl, hb5⟩; have B5 := Lib.hid hb5; clear hb5 HNK))
     | ((go_at_call 61; refine (HNA.out _).mono ?_; rintro e w7 ⟨rfl, hb7⟩; have B7 := Lib.hid hb7; clear hb7))
     | (at_builtin; (refine wpList_apps (w := w5) rfl _ _ rfl (v := .slice ao0 b.length cap0) rfl (HB1.out.below B5.out) (s := bytes (num 2)) rfl hnkp.out (by have := B5.out.size; simp at this; omega) (by have := hnk.out; have := hnks.out; omega) ?_; intro v6 w6 hr6 ho6; rw [bytes_data] at hr6; have R6 := Lib.hid hr6; have O6 : Hid (OwnStep _ _ w6 v6) := (OwnStep.made _ B5.out).trans ho6; clear hr6 ho6; clear HB1; obtain ⟨c60, c61, c62, c63⟩ := box_cells O6.out hvo.out))
     | (at_builtin; (refine wpList_apps (w := w7) rfl _ _ rfl (v := v6) rfl (R6.out.below B7.out) (s := bytes (str sa.data.toList)) rfl hnap.out (by have := B7.out.size; have := O6.out.size; simp at this; omega) (by have := hnk.out; have := hna.out; have := hnas.out; rw [List.length_append]; omega) ?_; intro v8 w8 hr8 ho8; rw [bytes_data] at hr8; have R8 := Lib.hid hr8; have O8 : Hid (OwnStep _ _ w8 v8) := O6.out.trans ((OwnStep.made _ B7.out).trans ho8); clear hr8 ho8; obtain ⟨c80, c81, c82, c83⟩ := box_cells O8.out hvo.out)))
  have e : topOf 2 na sa la.length = str sa.data.toList := by simp [topOf]
  have hbz : Hid ((b ++ num 2 ++ topOf 2 na sa la.length).length ≤ 100000) := by have := hnk.out; have := HT.out; show _ ≤ 100000; rw [List.length_append, List.length_append]; omega
  have RZ : Hid (ByteRow w8 N v8 (b ++ num 2 ++ topOf 2 na sa la.length)) := by show ByteRow _ _ _ _; rw [e]; exact R8.out
  clear e
  have HL : Hid (PutLoop N w8 v8 32768 la (b ++ num 2 ++ topOf 2 na sa la.length) la.length v8 (.int .i64 0) w8) := ⟨0, (b ++ num 2 ++ topOf 2 na sa la.length), rfl, by omega, RZ.out, rfl, hbz.out, OwnStep.refl _ _⟩
  go_loopg [0, 5] la.length (fun k s0 s1 wr => PutLoop N w8 v8 32768 la (b ++ num 2 ++ topOf 2 na sa la.length) k s0 s1 wr)
  case atStart => exact HL.out
  case round =>
    clear HL
    obtain ⟨i, b', rfl, hik, hrow, hput, hbl, hown⟩ := hrel
    have HROW := Lib.hid hrow
    have HPUT := Lib.hid hput
    have HBL := Lib.hid hbl
    have HOWN := Lib.hid hown
    have OW : Hid (OwnStep (w.alloc (.cells #[.int .i64 2, .int .i64 na, .string sa, .slice ao la.length cap] 33)) (.slice ao0 b.length cap0) wr u0) := O8.out.trans hown
    clear hrow hput hbl hown
    obtain ⟨e0, e1, e2, e3⟩ := box_cells OW.out hvo.out
    by_cases hlt : i < la.length
    · obtain ⟨tk, htk⟩ : ∃ u, la[i]? = some u := ⟨_, List.getElem?_eq_getElem hlt⟩
      obtain ⟨bb, oo, _, _, _, _, rfl, hbb, _⟩ := a7.get htk
      obtain ⟨_, aok, capk, p0, p1, p2, p3, hvk⟩ := a7.cells htk
      unfold vval at hvk
      rw [Nat.zero_add] at p0 p1 p2 p3
      have hbb' := hP _ hbb
      have hblk : wr.heap[bb]? = w.heap[bb]? := (OW.out.block (by simp; omega) hbb'.2).trans (heap_alloc_old _ _ hbb'.1)
      have cc : ∀ j, wr.cell? ⟨bb, j, none⟩ = w.cell? ⟨bb, j, none⟩ := fun j => by simp [World.cell?, hblk]
      replace p0 := (cc _).trans p0
      replace p1 := (cc _).trans p1
      replace p2 := (cc _).trans p2
      replace p3 := (cc _).trans p3
      have hvk' : Hid (ValIs wr P tk (.agg #[.int .i64 tk.kind, .int .i64 tk.num, .string tk.text, .slice aok tk.kids.length capk])) := (hvk.below ((Below.refl _ _).alloc (Nat.le_refl _) _) (fun b hb => (hP b hb).1)).own OW.out (fun b hb => ⟨by have := (hP b hb).1; simp; omega, (hP b hb).2⟩)
      have HPB : Hid (∀ x, P x → x < wr.heap.size ∧ u0.ownBlock ≠ some x) := fun x hx => ⟨by have := (hP x hx).1; have := OW.out.size; simp at this; omega, OW.out.apart (by have := (hP x hx).1; simp; omega) (hP x hx).2⟩
      have hkid : Hid (tk.sz ≤ k) := by
        have h5 : tk.sz < (VT.node 2 na sa la).sz := VT.sz_kid (t := VT.node 2 na sa la) htk
        show tk.sz ≤ k; omega
      have hrk := Lib.hid (VT.rights_get hrs.out htk)
      have hdrop := Lib.hid (VT.drop_kid htk)
      have g1' : (i : Int) < (la.length : Int) := by omega
      have hi0 : (0 : Int) ≤ (i : Int) := by omega
      have hNr : Hid (N ≤ wr.heap.size) := by have := OW.out.size; simp at this; show N ≤ wr.heap.size; omega
      clear hvk htk cc hblk
      go_wp2_with ((go_at_call 81; refine (ih tk _ _ P (d + 1) N u0 b' hkid.out hrk.out hvk'.out HPB.out HROW.out hNr.out HBL.out).mono ?_; rintro e w7 ⟨v7, rfl, hr7, ho7⟩; have HR7 := Lib.hid hr7; have HO7 := Lib.hid ho7; clear hr7 ho7))
      go_roundg (gk - 1)
      case measure => omega
      case rel => exact ⟨i + 1, _, by go_num, by omega, HR7.out, by rw [HPUT.out, hdrop.out, VT.puts_cons], by have := VT.put_len (L := 32768) tk b' (d + 1) hrk.out; have := HBL.out; omega, HOWN.out.trans HO7.out⟩
    · obtain rfl : i = la.length := by omega
      go_wp2
      go_ret
      refine PutEnd.boxed (o := .cells #[.int .i64 2, .int .i64 na, .string sa, .slice ao la.length cap] 33) ⟨_, rfl, ?_, OW.out⟩ (fun k hk => HR.out.lt hk)
      rw [hpt.out, HPUT.out, List.drop_length, VT.puts_nil]
      exact HROW.out

include ih in
set_option maxRecDepth 100000 in
set_option maxHeartbeats 3200000 in
theorem bytes_3 (na : Int) (sa : ByteArray) (la : List VT) (w : World) (P : Nat → Prop) (d : Int) (N : Nat) (v : Value) (b : List UInt8) (ao : Option Addr) (cap : Nat) (hk : (VT.node 3 na sa la).sz ≤ k + 1) (hr : (VT.node 3 na sa la).right d = true)
    (a1 : la.length ≤ cap) (a2 : cap ≤ maxLen) (a7 : KidsAt w P la ao 0) (hP : ∀ x, P x → x < w.heap.size ∧ v.ownBlock ≠ some x) (hrow : ByteRow w N v b) (hN : N ≤ w.heap.size) (hb : b.length ≤ 32768) :
    Calls Tryz.prog 81 #[v, .agg #[.int .i64 3, .int .i64 na, .string sa, .slice ao la.length cap]] w (PutEnd w N v ((VT.node 3 na sa la).put 32768 b)) := by
  obtain ⟨hf, hrs', hd⟩ := VT.right_parts hr
  have hrs := Lib.hid hrs'
  have HR := Lib.hid hrow
  obtain ⟨ao0, cap0, rfl, hc0, hc1⟩ := hrow.form
  unfold maxLen at a2 hc1
  have hfp := fits_parts hf
  have HT := Lib.hid (topOf_len hf)
  have hpt : Hid ((VT.node 3 na sa la).put 32768 b = VT.puts 32768 la (b ++ num 3 ++ topOf 3 na sa la.length)) := by show _ = _; rw [VT.put_node, if_neg (by omega)]
  have HB1 : Hid (ByteRow (w.alloc (.cells #[.int .i64 3, .int .i64 na, .string sa, .slice ao la.length cap] 33)) N (.slice ao0 b.length cap0) b) := hrow.below ((Below.refl _ _).alloc (Nat.le_refl _) _)
  have hnk := Lib.hid (num_len (n := 3) (by omega) (by omega))
  have hnkp := Lib.hid (num_pos 3)
  have hnks : Hid ((bytes (num 3)).size = (num 3).length) := bytes_size _
  have HNK : Hid (∀ W, Calls Tryz.prog 58 #[.int .i64 3] W fun e w' => e = .returned (.string (bytes (num 3))) ∧ Below W.heap.size W w') := fun W => refNum_any 3 W (by omega) (by omega)
  have hvo : Hid ((Value.slice ao0 b.length cap0).ownBlock ≠ some w.heap.size) := fun e => by have := HR.out.lt e; omega
  clear hrow hr hrs'
  have hb2 : (b.length : Int) ≤ 32768 := by omega
  have hna := Lib.hid (num_len (n := na) (by omega) (by omega))
  have hnap := Lib.hid (num_pos na)
  have hnas : Hid ((bytes (num na)).size = (num na).length) := bytes_size _
  have HNA : Hid (∀ W, Calls Tryz.prog 58 #[.int .i64 na] W fun e w' => e = .returned (.string (bytes (num na))) ∧ Below W.heap.size W w') := fun W => refNum_any na W (by omega) (by omega)
  have hna2 := Lib.hid (num_len (n := (la.length : Int)) (by omega) (by omega))
  have hnap2 := Lib.hid (num_pos (la.length : Int))
  have hnas2 : Hid ((bytes (num (la.length : Int))).size = (num (la.length : Int)).length) := bytes_size _
  have HNA2 : Hid (∀ W, Calls Tryz.prog 58 #[.int .i64 (la.length : Int)] W fun e w' => e = .returned (.string (bytes (num (la.length : Int)))) ∧ Below W.heap.size W w') := fun W => refNum_any (la.length : Int) W (by omega) (by omega)
  have hno : ¬ 9223372036854775807 < (bytes (num na)).size + (bytes (num (la.length : Int))).size := by have := hna.out; have := hna2.out; have := hnas.out; have := hnas2.out; omega
  have hsum : Hid (bytes (num na ++ num (la.length : Int)) = bytes (num na) ++ bytes (num (la.length : Int))) := (bytes_append _ _).symm
  go_enter Tryz.func81, Tryz.ntmps81
  go_wp2_with
    (first
     | ((go_at_call 58; refine (HNK.out _).mono ?_; rintro e w5 ⟨rfl, hb5⟩; have B5 := Lib.hid hb5; clear hb5 HNK))
     | (at_builtin; (refine wpList_apps (w := w5) rfl _ _ rfl (v := .slice ao0 b.length cap0) rfl (HB1.out.below B5.out) (s := bytes (num 3)) rfl hnkp.out (by have := B5.out.size; simp at this; omega) (by have := hnk.out; have := hnks.out; omega) ?_; intro v6 w6 hr6 ho6; rw [bytes_data] at hr6; have R6 := Lib.hid hr6; have O6 : Hid (OwnStep _ _ w6 v6) := (OwnStep.made _ B5.out).trans ho6; clear hr6 ho6; clear HB1; obtain ⟨c60, c61, c62, c63⟩ := box_cells O6.out hvo.out)))
  have BC0 : Hid (Below w6.heap.size w6 w6.drew) := (Below.refl _ _).drew
  first | go_region_law (first
    | (refine step_callw (by rfl) 58 #[.int .i64 na] ?_ (HNA.out _) ?_; go_simp; rintro e w7 ⟨rfl, hb7⟩; refine ⟨.string (bytes (num na)), rfl, ?_⟩; have B7 := Lib.hid hb7; clear hb7 HNA; have BC7 : Hid (Below w6.heap.size w6 w7) := (by first | exact BC9.out.trans (B7.out.mono BC9.out.size) | exact BC0.out.trans (B7.out.mono BC0.out.size)); have O7 : Hid (OwnStep _ _ w7 v6) := O6.out.trans (OwnStep.made _ BC7.out); obtain ⟨c70, c71, c72, c73⟩ := box_cells O7.out hvo.out)
    | (refine step_callw (by rfl) 58 #[.int .i64 (la.length : Int)] ?_ (HNA2.out _) ?_; go_simp; rintro e w9 ⟨rfl, hb9⟩; refine ⟨.string (bytes (num (la.length : Int))), rfl, ?_⟩; have B9 := Lib.hid hb9; clear hb9 HNA2; have BC9 : Hid (Below w6.heap.size w6 w9) := (by first | exact BC7.out.trans (B9.out.mono BC7.out.size) | exact BC0.out.trans (B9.out.mono BC0.out.size)); have O9 : Hid (OwnStep _ _ w9 v6) := O6.out.trans (OwnStep.made _ BC9.out); obtain ⟨c90, c91, c92, c93⟩ := box_cells O9.out hvo.out)
    | (refine step_apps (w := w9) (by rfl) _ _ rfl (v := v6) rfl (R6.out.below BC9.out) (s := bytes (num na) ++ bytes (num (la.length : Int))) rfl (by rw [← hsum.out, bytes_size, List.length_append]; have := hnap.out; have := hnas.out; omega) (by have := O9.out.size; simp at this; omega) (by have := hnk.out; have := hna.out; have := hna2.out; rw [← hsum.out, bytes_size, List.length_append, List.length_append]; omega) ?_; intro v10 w10 hr10 ho10; rw [← hsum.out, bytes_data] at hr10; have R10 := Lib.hid hr10; have O10 : Hid (OwnStep _ _ w10 v10) := O9.out.trans ho10; clear hr10 ho10; obtain ⟨d0, d1, d2, d3⟩ := box_cells O10.out hvo.out)
    | (refine step_apps (w := w7) (by rfl) _ _ rfl (v := v6) rfl (R6.out.below BC7.out) (s := bytes (num na) ++ bytes (num (la.length : Int))) rfl (by rw [← hsum.out, bytes_size, List.length_append]; have := hnap.out; have := hnas.out; omega) (by have := O7.out.size; simp at this; omega) (by have := hnk.out; have := hna.out; have := hna2.out; rw [← hsum.out, bytes_size, List.length_append, List.length_append]; omega) ?_; intro v10 w10 hr10 ho10; rw [← hsum.out, bytes_data] at hr10; have R10 := Lib.hid hr10; have O10 : Hid (OwnStep _ _ w10 v10) := O7.out.trans ho10; clear hr10 ho10; obtain ⟨d0, d1, d2, d3⟩ := box_cells O10.out hvo.out)) | fail
  all_goals (have hbz : Hid ((b ++ num 3 ++ topOf 3 na sa la.length).length ≤ 100000) := by have := hnk.out; have := HT.out; show _ ≤ 100000; rw [List.length_append, List.length_append]; omega)
  all_goals (have RZ : Hid (ByteRow w10 N v10 (b ++ num 3 ++ topOf 3 na sa la.length)) := by have e : topOf 3 na sa la.length = num na ++ num (la.length : Int) := by { simp [topOf] }; show ByteRow _ _ _ _; rw [e]; exact R10.out)
  all_goals go_wp2
  all_goals
    have HL : Hid (PutLoop N w10 v10 32768 la (b ++ num 3 ++ topOf 3 na sa la.length) la.length v10 (.int .i64 0) w10) := ⟨0, (b ++ num 3 ++ topOf 3 na sa la.length), rfl, by omega, RZ.out, rfl, hbz.out, OwnStep.refl _ _⟩
    go_loopg [0, 5] la.length (fun k s0 s1 wr => PutLoop N w10 v10 32768 la (b ++ num 3 ++ topOf 3 na sa la.length) k s0 s1 wr)
    case atStart => exact HL.out
    case round =>
      clear HL
      obtain ⟨i, b', rfl, hik, hrow, hput, hbl, hown⟩ := hrel
      have HROW := Lib.hid hrow
      have HPUT := Lib.hid hput
      have HBL := Lib.hid hbl
      have HOWN := Lib.hid hown
      have OW : Hid (OwnStep (w.alloc (.cells #[.int .i64 3, .int .i64 na, .string sa, .slice ao la.length cap] 33)) (.slice ao0 b.length cap0) wr u0) := O10.out.trans hown
      clear hrow hput hbl hown
      obtain ⟨e0, e1, e2, e3⟩ := box_cells OW.out hvo.out
      by_cases hlt : i < la.length
      · obtain ⟨tk, htk⟩ : ∃ u, la[i]? = some u := ⟨_, List.getElem?_eq_getElem hlt⟩
        obtain ⟨bb, oo, _, _, _, _, rfl, hbb, _⟩ := a7.get htk
        obtain ⟨_, aok, capk, p0, p1, p2, p3, hvk⟩ := a7.cells htk
        unfold vval at hvk
        rw [Nat.zero_add] at p0 p1 p2 p3
        have hbb' := hP _ hbb
        have hblk : wr.heap[bb]? = w.heap[bb]? := (OW.out.block (by simp; omega) hbb'.2).trans (heap_alloc_old _ _ hbb'.1)
        have cc : ∀ j, wr.cell? ⟨bb, j, none⟩ = w.cell? ⟨bb, j, none⟩ := fun j => by simp [World.cell?, hblk]
        replace p0 := (cc _).trans p0
        replace p1 := (cc _).trans p1
        replace p2 := (cc _).trans p2
        replace p3 := (cc _).trans p3
        have hvk' : Hid (ValIs wr P tk (.agg #[.int .i64 tk.kind, .int .i64 tk.num, .string tk.text, .slice aok tk.kids.length capk])) := (hvk.below ((Below.refl _ _).alloc (Nat.le_refl _) _) (fun b hb => (hP b hb).1)).own OW.out (fun b hb => ⟨by have := (hP b hb).1; simp; omega, (hP b hb).2⟩)
        have HPB : Hid (∀ x, P x → x < wr.heap.size ∧ u0.ownBlock ≠ some x) := fun x hx => ⟨by have := (hP x hx).1; have := OW.out.size; simp at this; omega, OW.out.apart (by have := (hP x hx).1; simp; omega) (hP x hx).2⟩
        have hkid : Hid (tk.sz ≤ k) := by
          have h5 : tk.sz < (VT.node 3 na sa la).sz := VT.sz_kid (t := VT.node 3 na sa la) htk
          show tk.sz ≤ k; omega
        have hrk := Lib.hid (VT.rights_get hrs.out htk)
        have hdrop := Lib.hid (VT.drop_kid htk)
        have g1' : (i : Int) < (la.length : Int) := by omega
        have hi0 : (0 : Int) ≤ (i : Int) := by omega
        have hNr : Hid (N ≤ wr.heap.size) := by have := OW.out.size; simp at this; show N ≤ wr.heap.size; omega
        clear hvk htk cc hblk
        go_wp2_with ((go_at_call 81; refine (ih tk _ _ P (d + 1) N u0 b' hkid.out hrk.out hvk'.out HPB.out HROW.out hNr.out HBL.out).mono ?_; rintro e w7 ⟨v7, rfl, hr7, ho7⟩; have HR7 := Lib.hid hr7; have HO7 := Lib.hid ho7; clear hr7 ho7))
        go_roundg (gk - 1)
        case measure => omega
        case rel => exact ⟨i + 1, _, by go_num, by omega, HR7.out, by rw [HPUT.out, hdrop.out, VT.puts_cons], by have := VT.put_len (L := 32768) tk b' (d + 1) hrk.out; have := HBL.out; omega, HOWN.out.trans HO7.out⟩
      · obtain rfl : i = la.length := by omega
        go_wp2
        go_ret
        refine PutEnd.boxed (o := .cells #[.int .i64 3, .int .i64 na, .string sa, .slice ao la.length cap] 33) ⟨_, rfl, ?_, OW.out⟩ (fun k hk => HR.out.lt hk)
        rw [hpt.out, HPUT.out, List.drop_length, VT.puts_nil]
        exact HROW.out
end
end Go.Proofs.YtcpgbekcbaelpaaGreatDoor
/- Encode and Check, the reference's and the program's. -/
namespace Go.Proofs.YtcpgbekcbaelpaaGreatDoor
open Go.RowKit Go.Maps Wr
set_option linter.unusedVariables false

set_option maxRecDepth 100000 in
theorem bytes_stop (t : VT) (vt : Value) (w : World) (P : Nat → Prop) (N : Nat) (v : Value) (b : List UInt8) (hv : ValIs w P t vt) (hrow : ByteRow w N v b) (hb : 32768 < b.length) :
    Calls Tryz.prog 81 #[v, vt] w (PutEnd w N v (t.put 32768 b)) := by
  obtain ⟨k0, na, sa, la⟩ := t
  unfold ValIs at hv
  obtain ⟨ao, cap, rfl, a1, a2, a3, a4, a5, a6, a7⟩ := hv
  have hpt : Hid ((VT.node k0 na sa la).put 32768 b = b) := by show _ = _; rw [VT.put_node, if_pos hb]
  have HR := Lib.hid hrow
  obtain ⟨ao0, cap0, rfl, hc0, hc1⟩ := hrow.form
  unfold maxLen at a2 hc1
  clear hrow a7
  have hb2 : (32768 : Int) < b.length := by omega
  go_enter Tryz.func81, Tryz.ntmps81
  go_wp2
  go_ret
  refine PutEnd.boxed (o := .cells #[.int .i64 k0, .int .i64 na, .string sa, .slice ao la.length cap] 33) ⟨_, rfl, ?_, OwnStep.refl _ _⟩ (fun k hk => HR.out.lt hk)
  rw [hpt.out]
  exact HR.out.below ((Below.refl _ _).alloc (Nat.le_refl _) _)

theorem bytes_walk : ∀ (k : Nat) (t : VT) (vt : Value) (w : World) (P : Nat → Prop) (d : Int) (N : Nat) (v : Value) (b : List UInt8), t.sz ≤ k → t.right d = true → ValIs w P t vt → (∀ x, P x → x < w.heap.size ∧ v.ownBlock ≠ some x) → ByteRow w N v b → N ≤ w.heap.size → b.length ≤ 100000 →
    Calls Tryz.prog 81 #[v, vt] w (PutEnd w N v (t.put 32768 b)) := by
  intro k
  induction k with
  | zero => intro t _ _ _ _ _ _ _ h; cases t; simp [VT.sz] at h
  | succ k ih =>
    intro t vt w P d N v b hk hr hv hP hrow hN hb
    by_cases hs : 32768 < b.length
    · exact bytes_stop t vt w P N v b hv hrow hs
    · obtain ⟨k0, na, sa, la⟩ := t
      unfold ValIs at hv
      obtain ⟨ao, cap, rfl, a1, a2, a3, a4, a5, a6, a7⟩ := hv
      have hs : b.length ≤ 32768 := by omega
      obtain ⟨h0, h6, _⟩ := fits_parts (VT.right_parts hr).1
      have h : k0 = 0 ∨ k0 = 1 ∨ k0 = 2 ∨ k0 = 3 ∨ k0 = 4 ∨ k0 = 5 ∨ k0 = 6 := by omega
      rcases h with rfl | rfl | rfl | rfl | rfl | rfl | rfl
      · exact bytes_0 k ih na sa la w P d N v b ao cap hk hr a1 a2 a7 hP hrow hN hs
      · exact bytes_1 k ih na sa la w P d N v b ao cap hk hr a1 a2 a7 hP hrow hN hs
      · exact bytes_2 k ih na sa la w P d N v b ao cap hk hr a1 a2 a7 hP hrow hN hs
      · exact bytes_3 k ih na sa la w P d N v b ao cap hk hr a1 a2 a7 hP hrow hN hs
      · exact bytes_4 k ih na sa la w P d N v b ao cap hk hr a1 a2 a7 hP hrow hN hs
      · exact bytes_5 k ih na sa la w P d N v b ao cap hk hr a1 a2 a7 hP hrow hN hs
      · exact bytes_6 k ih na sa la w P d N v b ao cap hk hr a1 a2 a7 hP hrow hN hs

theorem run_row_str {w : World} {N : Nat} {v : Value} {b : List UInt8} (h : ByteRow w N v b) (hne : b ≠ []) : (convert 44 9 v).run Tryz.prog w = .ok (.string (bytes b)) w := by
  obtain ⟨g, cap, rfl, hg⟩ := h.shape hne
  have hrow := h.1
  have hl : b.toArray.size = b.length := by simp
  have := run_convert_bytes_back (P := Tryz.prog) w 44 9 5 ⟨g, 0, none⟩ cap b Tryz.underlying44 Tryz.underlying5 Tryz.underlying9 (fun j hj => by
    rw [show (Addr.add ⟨g, 0, none⟩ j) = ⟨g, j, none⟩ by unfold Addr.add; split <;> simp_all]
    rw [hrow.cellAt j (by rw [bvals_length]; exact hj)]
    simp [bvals, List.getElem?_eq_getElem hj])
  exact this

def encErr (t : VT) : Int := if t.right 1 = true then (if (t.enc).length ≤ 16384 then 0 else 4) else 2
def encBytes (t : VT) : List UInt8 := if t.right 1 = true then (if (t.enc).length ≤ 16384 then t.enc else []) else []
theorem enc_ne (t : VT) : t.enc ≠ [] := by
  cases t with
  | node k n s l =>
    rw [VT.enc]
    intro h
    have := num_ne k
    cases h2 : num k with
    | nil => exact this h2
    | cons a b => rw [h2] at h; simp at h
theorem put_len32 {t : VT} : 16384 < (VT.put 32768 t []).length ↔ 16384 < t.enc.length := by
  rcases VT.put_or 32768 t [] with e | ⟨h1, h2⟩
  · rw [e, List.nil_append]
  · rw [List.nil_append] at h2; omega
theorem put_fits32 {t : VT} (h : ¬ 16384 < t.enc.length) : VT.put 32768 t [] = t.enc := VT.put_fits (by omega)
theorem put_len16 {t : VT} : 16384 < (VT.put 16384 t []).length ↔ 16384 < t.enc.length := by
  rcases VT.put_or 16384 t [] with e | ⟨h1, h2⟩
  · rw [e, List.nil_append]
  · rw [List.nil_append] at h2; omega
theorem put_fits16 {t : VT} (h : ¬ 16384 < t.enc.length) : VT.put 16384 t [] = t.enc := VT.put_fits (by omega)
theorem encErr_wrong {t : VT} (h : t.right 1 = false) : encErr t = 2 ∧ encBytes t = [] := by simp [encErr, encBytes, h]
theorem encErr_big {t : VT} (h : t.right 1 = true) (h2 : 16384 < t.enc.length) : encErr t = 4 ∧ encBytes t = [] := by
  have : ¬ t.enc.length ≤ 16384 := by omega
  simp [encErr, encBytes, h, this]
theorem encErr_ok {t : VT} (h : t.right 1 = true) (h2 : ¬ 16384 < t.enc.length) : encErr t = 0 ∧ encBytes t = t.enc := by
  have : t.enc.length ≤ 16384 := by omega
  simp [encErr, encBytes, h, this]
def RefEncEnd (w : World) (t : VT) (e : Ending) (w' : World) : Prop := e = .returned (.tuple #[.string (bytes (encBytes t)), .int .i64 (encErr t)]) ∧ Below w.heap.size w w'
def EncEnd (w : World) (t : VT) (e : Ending) (w' : World) : Prop := ∃ v, e = .returned (.tuple #[v, .int .i64 (encErr t)]) ∧ ByteRow w' w.heap.size v (encBytes t) ∧ Below w.heap.size w w'

theorem nil_row (w : World) (N : Nat) : ByteRow w N (.slice none 0 0) [] := ⟨Row.nil _ _, fun k h => by simp [Value.ownBlock] at h⟩

set_option maxRecDepth 100000 in
set_option maxHeartbeats 1600000 in
theorem refEncode_any (t : VT) (vt : Value) (w : World) (P : Nat → Prop) (hv : ValIs w P t vt) (hP : ∀ x, P x → x < w.heap.size) :
    Calls Tryz.prog 34 #[vt] w (RefEncEnd w t) := by
  have HV := Lib.hid hv
  have HRT : Hid (∀ W, Below w.heap.size w W → Calls Tryz.prog 80 #[vt, .int .i64 1] W fun e w' => e = .returned (.bool (t.right 1)) ∧ Below W.heap.size W w') := fun W hW => refRight_walk t.sz t vt W P 1 (Nat.le_refl _) (hv.below hW hP) (fun b hb => Nat.lt_of_lt_of_le (hP b hb) hW.size) (by omega) (by omega)
  have HPT : Hid (t.right 1 = true → ∀ W, Below w.heap.size w W → Calls Tryz.prog 81 #[.slice none 0 0, vt] W (PutEnd W w.heap.size (.slice none 0 0) (t.put 32768 []))) := fun hr W hW => bytes_walk t.sz t vt W P 1 w.heap.size _ [] (Nat.le_refl _) hr (hv.below hW hP) (fun b hb => ⟨Nat.lt_of_lt_of_le (hP b hb) hW.size, by simp [Value.ownBlock]⟩) (nil_row _ _) hW.size (by simp)
  have hv0 := hv
  obtain ⟨ka, na, sa, la⟩ := t
  unfold ValIs at hv0
  obtain ⟨ao, cap, rfl, a1, a2, a3, a4, a5, a6, a7⟩ := hv0
  generalize VT.node ka na sa la = t at *
  clear hv a7
  cases hr : t.right 1
  · rw [hr] at HRT
    have HE := Lib.hid (encErr_wrong hr)
    clear HPT hr
    go_enter Tryz.func34, Tryz.ntmps34
    go_wp2_with ((go_at_call 80; refine (HRT.out _ ((Below.refl _ _).alloc (Nat.le_refl _) _)).mono ?_; rintro e w5 ⟨rfl, hb5⟩; obtain ⟨c0, c1, c2, c3, hb6⟩ := cells_below hb5; have H6 := Lib.hid hb6; clear hb5 hb6))
    refine bodyPost_ret (v := .tuple #[.string ⟨#[]⟩, .int .i64 2]) (by simp [results, Tryz.results34, go_sem]) rfl ?_
    refine ⟨?_, H6.out⟩
    rw [HE.out.1, HE.out.2]; rfl
  · rw [hr] at HRT
    have HP2 := Lib.hid (HPT.out hr)
    have HRR := Lib.hid hr
    clear HPT hr
    have hlen := Lib.hid (put_len32 (t := t))
    obtain ⟨bz, hbz⟩ : ∃ b, VT.put 32768 t [] = b := ⟨_, rfl⟩
    rw [hbz] at HP2 hlen
    have HBZ := Lib.hid hbz
    clear hbz
    by_cases hbig : 16384 < bz.length
    · have HE := Lib.hid (encErr_big HRR.out (hlen.out.1 hbig))
      have hbig' : (16384 : Int) < bz.length := by omega
      go_enter Tryz.func34, Tryz.ntmps34
      go_wp2_with (first
        | ((go_at_call 80; refine (HRT.out _ ((Below.refl _ _).alloc (Nat.le_refl _) _)).mono ?_; rintro e w5 ⟨rfl, hb5⟩; obtain ⟨c0, c1, c2, c3, hb6⟩ := cells_below hb5; have H6 := Lib.hid hb6; clear hb5 hb6))
        | ((go_at_call 81; refine (HP2.out _ H6.out).mono ?_; rintro e w7 ⟨v7, rfl, hr7, ho7⟩; have R7 := Lib.hid hr7; have O7 := Lib.hid ho7; obtain ⟨ao7, cap7, rfl, _, _⟩ := hr7.form; clear hr7 ho7)))
      refine bodyPost_ret (v := .tuple #[.string ⟨#[]⟩, .int .i64 4]) (by simp [results, Tryz.results34, go_sem]) rfl ?_
      refine ⟨?_, H6.out.trans (O7.out.below H6.out.size (by simp [Value.ownBlock]))⟩
      rw [HE.out.1, HE.out.2]; rfl
    · have HE := Lib.hid (encErr_ok HRR.out (fun h => hbig (hlen.out.2 h)))
      have HZ : Hid (bz = t.enc) := by show _ = _; rw [← HBZ.out]; exact put_fits32 (fun h => hbig (hlen.out.2 h))
      have hbig' : ¬ (16384 : Int) < bz.length := by omega
      go_enter Tryz.func34, Tryz.ntmps34
      go_wp2_with (first
        | ((go_at_call 80; refine (HRT.out _ ((Below.refl _ _).alloc (Nat.le_refl _) _)).mono ?_; rintro e w5 ⟨rfl, hb5⟩; obtain ⟨c0, c1, c2, c3, hb6⟩ := cells_below hb5; have H6 := Lib.hid hb6; clear hb5 hb6))
        | ((go_at_call 81; refine (HP2.out _ H6.out).mono ?_; rintro e w7 ⟨v7, rfl, hr7, ho7⟩; have R7 := Lib.hid hr7; have O7 := Lib.hid ho7; have hcv := run_row_str hr7 (by rw [HZ.out]; exact enc_ne t); obtain ⟨ao7, cap7, rfl, _, _⟩ := hr7.form; clear hr7 ho7)))
      refine bodyPost_ret (v := .tuple #[.string (bytes bz), .int .i64 0]) (by simp [results, Tryz.results34, go_sem]) rfl ?_
      refine ⟨?_, H6.out.trans (O7.out.below H6.out.size (by simp [Value.ownBlock]))⟩
      rw [HE.out.1, HE.out.2, ← HZ.out]

set_option maxRecDepth 100000 in
set_option maxHeartbeats 1600000 in
theorem encode_any (t : VT) (vt : Value) (w : World) (P : Nat → Prop) (hv : ValIs w P t vt) (hP : ∀ x, P x → x < w.heap.size) :
    Calls Tryz.prog 91 #[vt] w (EncEnd w t) := by
  have HV := Lib.hid hv
  have HRT : Hid (∀ W, Below w.heap.size w W → Calls Tryz.prog 139 #[vt, .int .i64 1] W fun e w' => e = .returned (.bool (t.right 1)) ∧ Below W.heap.size W w') := fun W hW => right_walk t.sz t vt W P 1 (Nat.le_refl _) (hv.below hW hP) (fun b hb => Nat.lt_of_lt_of_le (hP b hb) hW.size) (by omega) (by omega)
  have HPT : Hid (t.right 1 = true → ∀ W, Below w.heap.size w W → Calls Tryz.prog 141 #[.slice none 0 0, vt] W (PutEnd W w.heap.size (.slice none 0 0) (t.put 16384 []))) := fun hr W hW => put_walk t.sz t vt W P 1 w.heap.size _ [] (Nat.le_refl _) hr (hv.below hW hP) (fun b hb => ⟨Nat.lt_of_lt_of_le (hP b hb) hW.size, by simp [Value.ownBlock]⟩) (nil_row _ _) hW.size (by simp)
  have hv0 := hv
  obtain ⟨ka, na, sa, la⟩ := t
  unfold ValIs at hv0
  obtain ⟨ao, cap, rfl, a1, a2, a3, a4, a5, a6, a7⟩ := hv0
  generalize VT.node ka na sa la = t at *
  clear hv a7
  cases hr : t.right 1
  · rw [hr] at HRT
    have HE := Lib.hid (encErr_wrong hr)
    clear HPT hr
    go_enter Tryz.func91, Tryz.ntmps91
    go_wp2_with ((go_at_call 139; refine (HRT.out _ ((Below.refl _ _).alloc (Nat.le_refl _) _)).mono ?_; rintro e w5 ⟨rfl, hb5⟩; obtain ⟨c0, c1, c2, c3, hb6⟩ := cells_below hb5; have H6 := Lib.hid hb6; clear hb5 hb6))
    refine bodyPost_ret (v := .tuple #[.slice none 0 0, .int .i64 2]) (by simp [results, Tryz.results91, go_sem]) rfl ?_
    exact ⟨.slice none 0 0, by rw [HE.out.1], by rw [HE.out.2]; exact nil_row _ _, H6.out⟩
  · rw [hr] at HRT
    have HP2 := Lib.hid (HPT.out hr)
    have HRR := Lib.hid hr
    clear HPT hr
    have hlen := Lib.hid (put_len16 (t := t))
    obtain ⟨bz, hbz⟩ : ∃ b, VT.put 16384 t [] = b := ⟨_, rfl⟩
    rw [hbz] at HP2 hlen
    have HBZ := Lib.hid hbz
    clear hbz
    by_cases hbig : 16384 < bz.length
    · have HE := Lib.hid (encErr_big HRR.out (hlen.out.1 hbig))
      have hbig' : (16384 : Int) < bz.length := by omega
      go_enter Tryz.func91, Tryz.ntmps91
      go_wp2_with (first
        | ((go_at_call 139; refine (HRT.out _ ((Below.refl _ _).alloc (Nat.le_refl _) _)).mono ?_; rintro e w5 ⟨rfl, hb5⟩; obtain ⟨c0, c1, c2, c3, hb6⟩ := cells_below hb5; have H6 := Lib.hid hb6; clear hb5 hb6))
        | ((go_at_call 141; refine (HP2.out _ H6.out).mono ?_; rintro e w7 ⟨v7, rfl, hr7, ho7⟩; have R7 := Lib.hid hr7; have O7 := Lib.hid ho7; obtain ⟨ao7, cap7, rfl, _, _⟩ := hr7.form; clear hr7 ho7)))
      refine bodyPost_ret (v := .tuple #[.slice none 0 0, .int .i64 4]) (by simp [results, Tryz.results91, go_sem]) rfl ?_
      exact ⟨.slice none 0 0, by rw [HE.out.1], by rw [HE.out.2]; exact nil_row _ _, H6.out.trans (O7.out.below H6.out.size (by simp [Value.ownBlock]))⟩
    · have HE := Lib.hid (encErr_ok HRR.out (fun h => hbig (hlen.out.2 h)))
      have HZ : Hid (bz = t.enc) := by show _ = _; rw [← HBZ.out]; exact put_fits16 (fun h => hbig (hlen.out.2 h))
      have hbig' : ¬ (16384 : Int) < bz.length := by omega
      go_enter Tryz.func91, Tryz.ntmps91
      go_wp2_with (first
        | ((go_at_call 139; refine (HRT.out _ ((Below.refl _ _).alloc (Nat.le_refl _) _)).mono ?_; rintro e w5 ⟨rfl, hb5⟩; obtain ⟨c0, c1, c2, c3, hb6⟩ := cells_below hb5; have H6 := Lib.hid hb6; clear hb5 hb6))
        | ((go_at_call 141; refine (HP2.out _ H6.out).mono ?_; rintro e w7 ⟨v7, rfl, hr7, ho7⟩; have R7 := Lib.hid hr7; have O7 := Lib.hid ho7; obtain ⟨ao7, cap7, rfl, _, _⟩ := hr7.form; clear hr7 ho7)))
      refine bodyPost_ret (v := .tuple #[.slice ao7 bz.length cap7, .int .i64 0]) (by simp [results, Tryz.results91, go_sem]) rfl ?_
      exact ⟨_, by rw [HE.out.1], by rw [HE.out.2, ← HZ.out]; exact R7.out, H6.out.trans (O7.out.below H6.out.size (by simp [Value.ownBlock]))⟩

end Go.Proofs.YtcpgbekcbaelpaaGreatDoor
/- A row of values that is being made. -/
namespace Go.Proofs.YtcpgbekcbaelpaaGreatDoor
open Go.RowKit Go.Maps

theorem infoV : (Tryz.prog.info? 33).map (fun i => (i.zero, i.size, i.bytes)) = some (some (.agg #[.int .i64 0, .int .i64 0, .string ⟨#[]⟩, .slice none 0 0]), 4, 56) := by kernel_rfl

def kcell (t : VT) (p : Option Addr × Nat) : List Value := [.int .i64 t.kind, .int .i64 t.num, .string t.text, .slice p.1 t.kids.length p.2]
def kcells : List VT → List (Option Addr × Nat) → List Value
  | t :: l, p :: ps => kcell t p ++ kcells l ps
  | _, _ => []
theorem kcells_length : ∀ {l : List VT} {ps : List (Option Addr × Nat)}, ps.length = l.length → (kcells l ps).length = l.length * 4
  | [], [], _ => rfl
  | t :: l, p :: ps, h => by
    simp only [List.length_cons] at h
    rw [kcells, List.length_append, kcells_length (by omega)]; simp [kcell]; omega
theorem kcells_get : ∀ {l : List VT} {ps : List (Option Addr × Nat)} {i r : Nat} {t : VT} {p : Option Addr × Nat}, l[i]? = some t → ps[i]? = some p → r < 4 → (kcells l ps)[i * 4 + r]? = (kcell t p)[r]?
  | [], _, _, _, _, _, h, _, _ => by cases h
  | _ :: _, [], _, _, _, _, _, h, _ => by cases h
  | t :: l, p :: ps, 0, r, u, q, h, h2, hr => by
    rw [List.getElem?_cons_zero] at h h2; cases h; cases h2
    rw [kcells, Nat.zero_mul, Nat.zero_add, List.getElem?_append_left (by simp [kcell]; omega)]
  | t :: l, p :: ps, i + 1, r, u, q, h, h2, hr => by
    rw [List.getElem?_cons_succ] at h h2
    rw [kcells, List.getElem?_append_right (by simp [kcell]; omega), show (i + 1) * 4 + r - (kcell t p).length = i * 4 + r by simp [kcell]; omega]
    exact kcells_get h h2 hr
theorem kcells_snoc : ∀ {l : List VT} {ps : List (Option Addr × Nat)} {t : VT} {p : Option Addr × Nat}, ps.length = l.length → kcells (l ++ [t]) (ps ++ [p]) = kcells l ps ++ kcell t p
  | [], [], _, _, _ => by simp [kcells]
  | t :: l, q :: ps, u, p, h => by
    simp only [List.length_cons] at h
    rw [List.cons_append, List.cons_append, kcells, kcells, kcells_snoc (by omega), List.append_assoc]

theorem KidsAt.mk {w : World} {P : Nat → Prop} {ao : Option Addr} : ∀ {l : List VT} {j : Nat}, (∀ i t, l[i]? = some t → ∃ b off x0 x1 x2 x3, ao = some ⟨b, off, none⟩ ∧ P b ∧ w.cell? ⟨b, off + (j + i) * 4, none⟩ = some x0 ∧ w.cell? ⟨b, off + (j + i) * 4 + 1, none⟩ = some x1 ∧ w.cell? ⟨b, off + (j + i) * 4 + 2, none⟩ = some x2 ∧ w.cell? ⟨b, off + (j + i) * 4 + 3, none⟩ = some x3 ∧ ValIs w P t (.agg #[x0, x1, x2, x3])) → KidsAt w P l ao j
  | [], _, _ => by unfold KidsAt; trivial
  | t :: l, j, h => by
    unfold KidsAt
    refine ⟨?_, KidsAt.mk fun i u hu => ?_⟩
    · have := h 0 t rfl
      rwa [Nat.add_zero] at this
    · have := h (i + 1) u (by rw [List.getElem?_cons_succ]; exact hu)
      rwa [show j + (i + 1) = j + 1 + i by omega] at this

def KRow (w : World) (base : Nat) (v : Value) (l : List VT) : Prop :=
  ∃ ps : List (Option Addr × Nat), ps.length = l.length ∧ RowZ w 33 4 v l.length (kcells l ps) ∧ (∀ k, v.ownBlock = some k → base ≤ k) ∧
    ∀ (i : Nat) (t : VT) (p : Option Addr × Nat), l[i]? = some t → ps[i]? = some p → ValIs w (fun b => base ≤ b ∧ b < w.heap.size ∧ v.ownBlock ≠ some b) t (vval t p.1 p.2)

section
variable {w w' : World} {base : Nat} {v : Value} {l : List VT}
theorem KRow.nil (w : World) (base : Nat) : KRow w base (.slice none 0 0) [] := ⟨[], rfl, RowZ.nil _ _ _, fun k h => by simp [Value.ownBlock] at h, fun i t p h => by cases h⟩
theorem KRow.below (h : KRow w base v l) (hb : Below w.heap.size w w') : KRow w' base v l := by
  obtain ⟨ps, h1, h2, h3, h4⟩ := h
  refine ⟨ps, h1, h2.below hb (fun k hk => h2.lt hk), h3, fun i t p ht hp => ?_⟩
  exact ((h4 i t p ht hp).below hb (fun b hb => hb.2.1)).mono fun b hb' => ⟨hb'.1, Nat.lt_of_lt_of_le hb'.2.1 hb.size, hb'.2.2⟩
theorem KRow.kids (h : KRow w base v l) : ∃ ao cap, v = .slice ao l.length cap ∧ l.length ≤ cap ∧ cap ≤ maxLen ∧ (ao = none → cap = 0) ∧ KidsAt w (fun b => base ≤ b ∧ b < w.heap.size) l ao 0 := by
  obtain ⟨ps, h1, h2, h3, h4⟩ := h
  obtain ⟨ao, cap, rfl, hle, hm, hn, hs⟩ := h2.form
  refine ⟨ao, cap, rfl, hle, hm, fun e => (hn e).2, KidsAt.mk fun i t ht => ?_⟩
  have hil := (List.getElem?_eq_some_iff.1 ht).1
  obtain ⟨p, hp⟩ : ∃ p, ps[i]? = some p := ⟨_, List.getElem?_eq_getElem (by omega)⟩
  cases ao with
  | none => have := (hn rfl).1; omega
  | some a =>
    obtain ⟨g, rfl, hg, hgb⟩ := hs a rfl
    have hlen := kcells_length h1
    have c : ∀ r, r < 4 → w.cell? ⟨g, i * 4 + r, none⟩ = (kcell t p)[r]? := fun r hr => by
      rw [← kcells_get ht hp hr]
      exact h2.cellAt _ (by rw [hlen]; omega)
    refine ⟨g, 0, _, _, _, _, rfl, ⟨h3 g hgb, hg⟩, ?_, ?_, ?_, ?_, (h4 i t p ht hp).mono fun b hb => ⟨hb.1, hb.2.1⟩⟩
    · rw [Nat.zero_add, Nat.zero_add]; exact c 0 (by omega)
    · rw [Nat.zero_add, Nat.zero_add]; exact c 1 (by omega)
    · rw [Nat.zero_add, Nat.zero_add]; exact c 2 (by omega)
    · rw [Nat.zero_add, Nat.zero_add]; exact c 3 (by omega)
theorem KRow.app {t : VT} {p : Option Addr × Nat} {o : Obj} {g cap : Nat} {ps : List (Option Addr × Nat)} (h1 : ps.length = l.length) (h3 : ∀ k, v.ownBlock = some k → base ≤ k ∧ k < w.heap.size) (hbase : base ≤ w.heap.size)
    (h4 : ∀ (i : Nat) (t : VT) (p : Option Addr × Nat), l[i]? = some t → ps[i]? = some p → ValIs w (fun b => base ≤ b ∧ b < w.heap.size ∧ v.ownBlock ≠ some b) t (vval t p.1 p.2))
    (ht : ValIs w (fun b => base ≤ b ∧ b < w.heap.size ∧ v.ownBlock ≠ some b) t (vval t p.1 p.2))
    (hr : RowZ w' 33 4 (.slice (some ⟨g, 0, none⟩) (l.length + 1) cap) (l.length + 1) (kcells l ps ++ kcell t p)) (hg : (w.alloc o).grownBy w' v.ownBlock) (hl : v.ownBlock = some g ∨ g = (w.alloc o).heap.size) :
    KRow w' base (.slice (some ⟨g, 0, none⟩) (l.length + 1) cap) (l ++ [t]) := by
  have hc : Chg v.ownBlock.toList w w' := ((Chg.refl _ w).alloc o).grown hg (fun k hk => .inl (by simp [hk]))
  have hsz := hc.size
  have hsz2 : w.heap.size + 1 ≤ w'.heap.size := by have := hg.size; simpa using this
  have hgl : g < w'.heap.size := hr.lt rfl
  have keep : ∀ {u : VT} {x : Value}, ValIs w (fun b => base ≤ b ∧ b < w.heap.size ∧ v.ownBlock ≠ some b) u x → ValIs w' (fun b => base ≤ b ∧ b < w'.heap.size ∧ (Value.slice (some ⟨g, 0, none⟩) (l.length + 1) cap).ownBlock ≠ some b) u x := fun hv =>
    (hv.chg hc (fun b hb => ⟨hb.2.1, by simpa using hb.2.2⟩)).mono fun b hb => ⟨hb.1, by omega, by
      simp only [Value.ownBlock, ne_eq, Option.some.injEq]
      rintro rfl
      rcases hl with e | e
      · exact hb.2.2 e
      · simp at e; omega⟩
  refine ⟨ps ++ [p], by simp [h1], ?_, fun k hk => ?_, fun i u q hu hq => ?_⟩
  · rw [kcells_snoc h1, List.length_append]; exact hr
  · simp only [Value.ownBlock, Option.some.injEq] at hk
    subst hk
    rcases hl with e | e
    · exact (h3 _ e).1
    · simp at e; omega
  · by_cases hi : i < l.length
    · rw [List.getElem?_append_left hi] at hu
      rw [List.getElem?_append_left (by omega)] at hq
      exact keep (h4 i u q hu hq)
    · have : i = l.length := by
        have := (List.getElem?_eq_some_iff.1 hu).1
        simp at this; omega
      subst this
      rw [List.getElem?_append_right (Nat.le_refl _), Nat.sub_self] at hu
      rw [List.getElem?_append_right (by omega), h1, Nat.sub_self] at hq
      cases hu; cases hq
      exact keep ht
end
end Go.Proofs.YtcpgbekcbaelpaaGreatDoor
