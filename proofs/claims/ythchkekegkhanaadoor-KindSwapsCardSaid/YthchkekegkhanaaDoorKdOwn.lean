/- The reference's Tame of types: so many parts, so deep; nine variables. -/
import Derived.Test.YthchkekegkhanaaDoorKdVar
import Derived.Laws.MakeOwn
import Derived.Laws.OwnMore
namespace Go.Proofs.YthchkekegkhanaaDoor
open Go.RowKit Go.Maps
set_option linter.unusedVariables false

def cutT (s : ByteArray) : ByteArray := s.extract 0 (min s.size 20)
def tnum (n : Int) : Int := 1 + (n % 18446744073709551616) % 9
theorem tnum_bd (n : Int) : 1 ≤ tnum n ∧ tnum n ≤ 9 := by unfold tnum; omega
namespace VT
mutual
def tameT : VT → Int → Int → Ty × Int
  | node k n s l, d, left => if k = 0 then (.var (tnum n), left - 1) else (.con (cutT s) (tamesT l d (left - 1)).1, (tamesT l d (left - 1)).2)
def tamesT : List VT → Int → Int → List Ty × Int
  | [], _, left => ([], left)
  | t :: ts, d, left => if 1 < d ∧ 0 < left then ((tameT t (d - 1) left).1 :: (tamesT ts d (tameT t (d - 1) left).2).1, (tamesT ts d (tameT t (d - 1) left).2).2) else ([], left)
end
mutual
theorem tameT_left : ∀ (t : VT) (d left : Int), 0 < left → 0 ≤ (tameT t d left).2 ∧ ((tameT t d left).1.sz : Int) = left - (tameT t d left).2
  | node k n s l, d, left, h => by
    rw [tameT]
    split
    · exact ⟨by simp; omega, by simp [Ty.sz]; omega⟩
    · have := tamesT_left l d (left - 1) (by omega)
      refine ⟨this.1, ?_⟩
      rw [Ty.sz]
      simp only
      have := this.2
      omega
theorem tamesT_left : ∀ (l : List VT) (d left : Int), 0 ≤ left → 0 ≤ (tamesT l d left).2 ∧ (Ty.szs (tamesT l d left).1 : Int) = left - (tamesT l d left).2
  | [], d, left, h => by rw [tamesT]; exact ⟨h, by simp [Ty.szs]⟩
  | t :: ts, d, left, h => by
    rw [tamesT]
    split
    · rename_i hc
      have a := tameT_left t (d - 1) left hc.2
      have b := tamesT_left ts d (tameT t (d - 1) left).2 a.1
      refine ⟨b.1, ?_⟩
      rw [Ty.szs]
      simp only
      have := a.2
      have := b.2
      omega
    · exact ⟨h, by simp [Ty.szs]⟩
end
end VT

def TameEnd (w : World) (r : Ty × Int) (e : Ending) (w' : World) : Prop :=
  ∃ ao cap, e = .returned (.tuple #[.agg #[.int .i64 r.1.op, .int .i64 r.1.num, .string r.1.text, .slice ao r.1.kids.length cap], .int .i64 r.2]) ∧ TyIs w' (fun b => w.heap.size ≤ b ∧ b < w'.heap.size) r.1 (tval r.1 ao cap) ∧ Below w.heap.size w w'
def TameLoop (W : World) (H : Nat) (x2 : ByteArray) (l : List VT) (d left : Int) (gk : Nat) (s2 s9 : Value) (wr : World) : Prop :=
  ∃ (i : Nat) (q : Int) (v : Value) (l' : List Ty), s9 = .int .i64 i ∧ s2 = .int .i64 q ∧ i + gk = l.length ∧ 0 ≤ q ∧ q ≤ 1000 ∧ (l'.length : Int) + q ≤ left ∧ wr.heap[H]? = some (.cells #[.int .i64 1, .int .i64 0, .string x2, v] 40 (0, 0)) ∧ TRow 40 wr W.heap.size v l' ∧ Chg [H] W wr ∧
    VT.tamesT l d left = (l' ++ (VT.tamesT (l.drop i) d q).1, (VT.tamesT (l.drop i) d q).2)

theorem grow_row {T : TypeId} {wr w5 : World} {base : Nat} {v : Value} {l : List Ty} (h : TRow T wr base v l) (hb : Below wr.heap.size wr w5) (o o' : Obj) : TRow T ((w5.alloc o).alloc o') base v l :=
  ((h.below hb).below ((Below.refl _ _).alloc (Nat.le_refl _) o)).below ((Below.refl _ _).alloc (Nat.le_refl _) o')
theorem grow_new {T : TypeId} {W wr w5 : World} {v x : Value} {l : List Ty} {t : Ty} (h : TRow T wr W.heap.size v l) (hs : W.heap.size ≤ wr.heap.size) (hv : TyIs w5 (fun b => wr.heap.size ≤ b ∧ b < w5.heap.size) t x) (o o' : Obj) :
    TyIs ((w5.alloc o).alloc o') (fun b => W.heap.size ≤ b ∧ b < ((w5.alloc o).alloc o').heap.size ∧ v.ownBlock ≠ some b) t x :=
  (hv.below (((Below.refl w5.heap.size w5).alloc (Nat.le_refl _) o).alloc (by simp) o') (fun b hb => hb.2)).mono fun b hb => by
    refine ⟨by have := hb.1; omega, by have := hb.2; simp; omega, fun e => ?_⟩
    have := (h.lt e).2
    have := hb.1
    omega
theorem grow_box {T : TypeId} {W wr w5 w6 : World} {v v' : Value} {l : List Ty} {H : Nat} {A : Array Value} {t : TypeId} {o o' : Obj} (ht : TStep ((w5.alloc o).alloc o') v w6 v') (hz : w5.heap[H + 1 + 1]? = some (.cells A t (0, 0))) (h : TRow T wr W.heap.size v l) (hs : W.heap.size = H + 3) : w6.heap[H + 1 + 1]? = some (.cells A t (0, 0)) := by
  have hlt := lt_of_block hz
  refine (ht.1.block _ (by simp; omega) ?_).trans ((heap_alloc_old _ _ (by simp; omega)).trans ((heap_alloc_old _ _ hlt).trans hz))
  intro hm
  have := (h.lt (Option.mem_toList.1 hm)).1
  omega
theorem grow_chg {T : TypeId} {W wr w5 w6 : World} {H : Nat} {v v' : Value} {l : List Ty} {o o' : Obj} (hc : Chg [H] W wr) (h5 : Below wr.heap.size wr w5) (ht : TStep ((w5.alloc o).alloc o') v w6 v') (hr : TRow T wr W.heap.size v l) (x : Value) : Chg [H] W (w6.setCell ⟨H, 3, none⟩ x) := by
  have e2 : Chg [H] W ((w5.alloc o).alloc o') := ((hc.trans (below_chg h5) (fun k hk => by simp at hk)).alloc o).alloc o'
  have e3 : Chg [H] W w6 := e2.trans ht.1 (fun k hk => .inr (by have := (hr.lt (Option.mem_toList.1 hk)).1; exact this))
  exact e3.setCell (.inl (by simp)) _
theorem heap_new2 (w : World) (o1 o2 : Obj) : ((w.alloc o1).alloc o2).heap[w.heap.size + 1]? = some o2 := by
  have := heap_alloc_new (w.alloc o1) o2
  rwa [World.size_alloc] at this
theorem tnum_walk (na : Int) : wrap64 (1 + wrap64 ((IntKind.u64.wrap na).tmod 9)) = tnum na := by
  have hw : 0 ≤ IntKind.u64.wrap na := by show 0 ≤ na % 18446744073709551616; omega
  rw [Int.tmod_eq_emod_of_nonneg hw, show IntKind.u64.wrap na = na % 18446744073709551616 from rfl]
  unfold wrap64 tnum
  omega
theorem wf_small {n : Int} (h1 : -1000000000000 ≤ n) (h2 : n ≤ 1000000000000) : (Lit.int .i64 n).wf = true := by
  have e1 : IntKind.i64.min = -9223372036854775808 := by decide
  have e2 : IntKind.i64.max = 9223372036854775807 := by decide
  simp only [Lit.wf, Bool.and_eq_true, decide_eq_true_eq]
  rw [e1, e2]
  omega
theorem cut_two (s : ByteArray) : (s.size ≤ 20 ∧ cutT s = s) ∨ (20 < s.size ∧ cutT s = s.extract 0 20) := by
  unfold cutT
  by_cases h : s.size ≤ 20
  · refine .inl ⟨h, ?_⟩
    rw [Nat.min_eq_left h]
    apply ByteArray.ext
    simp
  · exact .inr ⟨by omega, by rw [Nat.min_eq_right (by omega)]⟩
set_option maxRecDepth 100000 in
set_option maxHeartbeats 1600000 in
theorem tame_walk (k : Nat) : ∀ (t : VT) (v : Value) (w : World) (P : Nat → Prop) (d left : Int), t.sz ≤ k → ValIs w P t v → (∀ b, P b → b < w.heap.size) → 0 ≤ d → d ≤ 1000 → 0 < left → left ≤ 1000 →
    Calls Tryd.prog 36 #[v, .int .i64 d, .int .i64 left] w (TameEnd w (t.tameT d left)) := by
  induction k with
  | zero => intro t v w P d left hk; cases t; simp [VT.sz] at hk
  | succ k ih =>
    intro t v w P d left hk ht hP hd0 hd1 hl0 hl1
    cases t with
    | node ka na sa la =>
    unfold ValIs at ht
    obtain ⟨ao, cap, rfl, a1, a2, a3, a4, a5, a6, a7⟩ := ht
    unfold maxLen at a2 a3
    by_cases hka : ka = 0
    · subst hka
      have hte : Hid ((VT.node 0 na sa la).tameT d left = (.var (tnum na), left - 1)) := by show _ = _; rw [VT.tameT]; simp
      have HV := Lib.hid (fun W => refVar_any (tnum na) W)
      have hb := tnum_bd na
      go_enter Tryd.func36, Tryd.ntmps36
      have hnum : wrap64 (1 + wrap64 ((IntKind.u64.wrap na).tmod 9)) = tnum na := tnum_walk na
      have HN := Lib.hid hnum
      clear hnum
      go_wp2_with fail
      rw [HN.out]
      refine (HV.out _).mono ?_
      rintro e w5 ⟨rfl, hb5⟩
      have z5 := (hb5.block (w.heap.size + 1) (by simp)).trans (heap_new2 w _ _)
      obtain ⟨c0, c1, c2, c3, c4⟩ := hdr4_cells z5
      have Z5 := Lib.hid z5
      have B5 := Lib.hid hb5
      clear z5 hb5
      go_wp2
      obtain ⟨z1, z2⟩ := four_ret (y0 := .int .i64 0) (y1 := .int .i64 (tnum na)) (y2 := .string ⟨#[]⟩) (y3 := .slice none 0 0) Z5.out
      generalize ((((World.setCell _ _ _).setCell _ _).setCell _ _).setCell _ _) = wz at z1 z2 ⊢
      obtain ⟨y0, y1, y2, y3, _⟩ := hdr4_cells z1
      refine bodyPost_ret (v := .tuple #[.agg #[.int .i64 0, .int .i64 (tnum na), .string ⟨#[]⟩, .slice none 0 0], .int .i64 (left - 1)]) (by simp [results, Tryd.results36, go_sem, y0, y1, y2, y3]) rfl ?_
      rw [hte.out]
      have hs5 : w.heap.size + 2 ≤ w5.heap.size := by have := B5.out.size; simpa using this
      exact ⟨none, 0, rfl, TyIs.mk_var (wf_small (by omega) (by omega)), ((((Below.refl _ _).alloc (Nat.le_refl _) _).alloc (by simp) _).trans (B5.out.mono (by simp; omega))).trans (z2.below (B := w.heap.size) (by omega) (by simp))⟩
    · have hka' : (ka == 0) = false := by simpa using hka
      have hte : Hid ((VT.node ka na sa la).tameT d left = (.con (cutT sa) (VT.tamesT la d (left - 1)).1, (VT.tamesT la d (left - 1)).2)) := by show _ = _; rw [VT.tameT, if_neg hka]
      have hcs : Hid ((cutT sa).size ≤ maxLen) := by show _ ≤ _; unfold cutT maxLen; rw [ByteArray.size_extract]; omega
      clear hka
      rcases cut_two sa with ⟨h20, hx⟩ | ⟨h20, hx⟩
      all_goals
        have HX := Lib.hid hx
        clear hx
        go_enter Tryd.func36, Tryd.ntmps36
        go_wp2
        generalize hW : (((w.alloc _).alloc _).alloc _) = W
        have SW : Hid (W.heap.size = w.heap.size + 3) := by show _ = _; rw [← hW]; simp
        have ZA : Hid (W.heap[w.heap.size]? = some (.cells #[.int .i64 ka, .int .i64 na, .string sa, .slice ao la.length cap] 40 (0, 0))) := by
          show _ = _
          rw [← hW]; exact (heap_alloc_old _ _ (by simp; omega)).trans ((heap_alloc_old _ _ (by simp)).trans (heap_alloc_new _ _))
        have ZB : Hid (W.heap[w.heap.size + 1]? = some (.cells #[.int .i64 0, .int .i64 0, .string ⟨#[]⟩, .slice none 0 0] 40 (0, 0))) := by
          show _ = _
          rw [← hW]
          have := heap_alloc_new (w.alloc (.cells #[.int .i64 ka, .int .i64 na, .string sa, .slice ao la.length cap] 40)) (.cells #[.int .i64 0, .int .i64 0, .string ⟨#[]⟩, .slice none 0 0] 40)
          exact (heap_alloc_old _ _ (by simp)).trans (by simpa using this)
        obtain ⟨x2, hx2, ZC⟩ : ∃ x2, x2 = cutT sa ∧ Hid (W.heap[w.heap.size + 1 + 1]? = some (.cells #[.int .i64 1, .int .i64 0, .string x2, .slice none 0 0] 40 (0, 0))) := by
          refine ⟨_, HX.out.symm, ?_⟩
          show _ = _
          rw [← hW]
          have := heap_alloc_new ((w.alloc (.cells #[.int .i64 ka, .int .i64 na, .string sa, .slice ao la.length cap] 40)).alloc (.cells #[.int .i64 0, .int .i64 0, .string ⟨#[]⟩, .slice none 0 0] 40))
          exact (by simpa using this _)
        have BW : Hid (Below w.heap.size w W) := by rw [← hW]; exact (((Below.refl _ _).alloc (Nat.le_refl _) _).alloc (by simp) _).alloc (by simp; omega) _
        have HX2 := Lib.hid hx2
        clear hW hx2 HX
        have HL : Hid (TameLoop W (w.heap.size + 1 + 1) x2 la d (left - 1) la.length (.int .i64 (left - 1)) (.int .i64 0) W) := ⟨0, left - 1, .slice none 0 0, [], rfl, rfl, by omega, by omega, by omega, by simp, ZC.out, TRow.nil _ _, Chg.refl _ _, by simp⟩
        go_loopg [2, 9] la.length (fun gk s2 s9 wr => TameLoop W (w.heap.size + 1 + 1) x2 la d (left - 1) gk s2 s9 wr)
        case atStart => exact HL.out
        case round =>
          clear HL
          obtain ⟨i, q, v, l', rfl, rfl, hik, hq0, hq1, hll, hz, hr, hc, htm⟩ := hrel
          have hs0 := SW.out
          have hA : wr.heap[w.heap.size]? = some (.cells #[.int .i64 ka, .int .i64 na, .string sa, .slice ao la.length cap] 40 (0, 0)) := (hc.block w.heap.size (by omega) (by simp; omega)).trans ZA.out
          have hB : wr.heap[w.heap.size + 1]? = some (.cells #[.int .i64 0, .int .i64 0, .string ⟨#[]⟩, .slice none 0 0] 40 (0, 0)) := (hc.block (w.heap.size + 1) (by omega) (by simp)).trans ZB.out
          obtain ⟨ar, cr, rfl⟩ := hr.form
          obtain ⟨c0, c1, c2, c3, c4⟩ := hdr4_cells hA
          obtain ⟨d0, d1, d2, d3, d4⟩ := hdr4_cells hz
          have HB := Lib.hid hB
          have HZ := Lib.hid hz
          have HR := Lib.hid hr
          have HC := Lib.hid hc
          have HTM := Lib.hid htm
          have HLL := Lib.hid hll
          have BWR : Hid (Below w.heap.size w wr) := BW.out.trans (hc.below (by omega) (by simp; omega))
          clear hA hB hz hr hc hs0 c0 c1 c2 htm hll
          have g0 : (0 : Int) ≤ (i : Int) := by omega
          by_cases hgo : i < la.length ∧ 1 < d ∧ 0 < q
          · obtain ⟨g1, g2, g3⟩ := hgo
            have g4 : (i : Int) < (la.length : Int) := by omega
            obtain ⟨tk, htk⟩ : ∃ u, la[i]? = some u := ⟨_, List.getElem?_eq_getElem g1⟩
            obtain ⟨bb, oo, y0, y1, y2, y3, rfl, hbb, p0, p1, p2, p3, hvk⟩ := a7.get htk
            rw [Nat.zero_add] at p0 p1 p2 p3
            have hbb' := hP _ hbb
            replace p0 := (BWR.out.cell (p := ⟨bb, oo + i * 4, none⟩) hbb').trans p0
            replace p1 := (BWR.out.cell (p := ⟨bb, oo + i * 4 + 1, none⟩) hbb').trans p1
            replace p2 := (BWR.out.cell (p := ⟨bb, oo + i * 4 + 2, none⟩) hbb').trans p2
            replace p3 := (BWR.out.cell (p := ⟨bb, oo + i * 4 + 3, none⟩) hbb').trans p3
            have hkid : tk.sz ≤ k := by
              have h5 : tk.sz < (VT.node ka na sa la).sz := VT.sz_kid (t := VT.node ka na sa la) htk
              omega
            have HCALL := Lib.hid (ih tk _ wr P (d - 1) q hkid (hvk.below BWR.out hP) (fun b hb => Nat.lt_of_lt_of_le (hP b hb) BWR.out.size) (by omega) (by omega) g3 hq1)
            have hdrop : Hid (VT.tamesT (la.drop i) d q = ((tk.tameT (d - 1) q).1 :: (VT.tamesT (la.drop (i + 1)) d (tk.tameT (d - 1) q).2).1, (VT.tamesT (la.drop (i + 1)) d (tk.tameT (d - 1) q).2).2)) := by
              show _ = _
              rw [List.drop_eq_getElem_cons g1, show la[i] = tk from Option.some.inj ((List.getElem?_eq_getElem g1).symm.trans htk), VT.tamesT, if_pos ⟨g2, g3⟩]
            have hlf := VT.tameT_left tk (d - 1) q g3
            have hlp := (tk.tameT (d - 1) q).1.sz_pos
            have HLF : Hid (0 ≤ (tk.tameT (d - 1) q).2 ∧ (tk.tameT (d - 1) q).2 ≤ 1000 ∧ (tk.tameT (d - 1) q).2 < q) := ⟨hlf.1, by omega, by omega⟩
            clear hvk htk hlf hlp
            generalize htt : tk.tameT (d - 1) q = r at *
            obtain ⟨tr, qr⟩ := r
            unfold TameEnd at HCALL
            simp only at HCALL HLF hdrop
            clear htt
            go_wp2_with (first
              | (go_at_call 36; refine HCALL.out.mono ?_; clear HCALL; rintro e w5 ⟨ao5, cap5, rfl, hv5, hb5⟩; have hz5 := (hb5.block (w.heap.size + 1 + 1) (lt_of_block HZ.out)).trans HZ.out; have e5 := (fun o => (later_box hz5 o).1.2.2.2); have B5 := Lib.hid hb5; have V5 := Lib.hid hv5; have Z5 := Lib.hid hz5; clear hb5 hv5 hz5)
              | (at_builtin; refine wpList_appt (w := (w5.alloc (.cells #[.int .i64 tr.op, .int .i64 tr.num, .string tr.text, .slice ao5 tr.kids.length cap5] 40)).alloc (.cells #[.int .i64 tr.op, .int .i64 tr.num, .string tr.text, .slice ao5 tr.kids.length cap5] 40)) rfl _ _ 22 40 rfl Tryd.underlying22 infoR (base := W.heap.size) rfl (grow_row HR.out B5.out _ _) (t := tr) (p := (ao5, cap5)) (ad := ⟨w5.heap.size + 1, 0, none⟩) (c := 1) rfl (cell_four_new2 _ _ _ _ _ _ _) (grow_new HR.out HC.out.size V5.out _ _) (by have := HC.out.size; have := B5.out.size; simp; omega) (by have := HLL.out; omega) ?_; intro g6 cap6 w6 hr6 ht6; have hz6 := grow_box ht6 Z5.out HR.out SW.out; obtain ⟨f0, f1, f2, f3, f4⟩ := hdr4_cells hz6; have R6 := Lib.hid hr6; have T6 := Lib.hid ht6; have Z6 := Lib.hid hz6; clear hr6 ht6 hz6))
            go_roundg (gk - 1)
            case measure => omega
            case rel =>
              refine ⟨i + 1, qr, .slice (some ⟨g6, 0, none⟩) (l'.length + 1) cap6, l' ++ [tr], by go_num, rfl, by omega, HLF.out.1, HLF.out.2.1, by have := HLL.out; have := HLF.out.2.2; simp; omega, (hdr4_set Z6.out).trans rfl, R6.out.chg (chg1_set _ _ _ _) (by have := SW.out; simp; omega), grow_chg HC.out B5.out T6.out HR.out _, ?_⟩
              rw [HTM.out, hdrop.out]
              simp
          · have hx : Hid (VT.tamesT (la.drop i) d q = ([], q)) := by
              show _ = _
              cases hd : la.drop i with
              | nil => rw [VT.tamesT]
              | cons t ts =>
                have : i < la.length := by
                  have := congrArg List.length hd; simp at this; omega
                rw [VT.tamesT, if_neg (by omega)]
            have hcon : Hid (VT.tamesT la d (left - 1) = (l', q)) := by
              show _ = _
              rw [HTM.out, hx.out, List.append_nil]
            obtain ⟨b0, b1, b2, b3, b4⟩ := hdr4_cells HB.out
            rcases (show (¬ (i : Int) < (la.length : Int)) ∨ ((i : Int) < (la.length : Int) ∧ ¬ 1 < d) ∨ ((i : Int) < (la.length : Int) ∧ 1 < d ∧ ¬ 0 < q) by omega) with g1 | ⟨g1, g2⟩ | ⟨g1, g2, g3⟩
            all_goals
              clear hgo
              go_wp2
              obtain ⟨z1, z2⟩ := four_ret (y0 := .int .i64 1) (y1 := .int .i64 0) (y2 := .string x2) (y3 := .slice ar l'.length cr) HB.out
              generalize ((((World.setCell _ _ _).setCell _ _).setCell _ _).setCell _ _) = wz at z1 z2 ⊢
              obtain ⟨y0, y1, y2, y3, _⟩ := hdr4_cells z1
              refine bodyPost_ret (v := .tuple #[.agg #[.int .i64 1, .int .i64 0, .string x2, .slice ar l'.length cr], .int .i64 q]) (by simp [results, Tryd.results36, go_sem, y0, y1, y2, y3]) rfl ?_
              rw [hte.out, hcon.out]
              obtain ⟨n1, n2, n3, n4⟩ := copy_end HR.out z2 BWR.out HC.out.size SW.out
              rw [HX2.out]
              exact ⟨ar, cr, rfl, TyIs.mk_con n1 n2 hcs.out n3 n4.1, n4.2⟩
end Go.Proofs.YthchkekegkhanaaDoor
/- Rows of types of a size that is known ahead, filled one by one; the program's own. -/
namespace Go.Proofs.YthchkekegkhanaaDoor
open Go.RowKit Go.Maps
set_option linter.unusedVariables false

def zcells : Array Value := #[.int .i64 0, .int .i64 0, .string ⟨#[]⟩, .slice none 0 0]
theorem run_makeK (n : Nat) (hn : n ≤ 1000000) (w : World) : (Instr.makeSlice 23 (.int .i64 (n : Int)) (.int .i64 (n : Int))).run Tryd.prog w = .ok (.slice (some ⟨w.heap.size, 0, none⟩) n n) (w.alloc (.cells (madeCells zcells (n * 4)) 25)) := by
  obtain ⟨i0, hi, hz0, hz1, hz2⟩ := info_parts infoK
  have := run_make (P := Tryd.prog) w 23 25 i0 _ Tryd.underlying23 hi hz0 .i64 .i64 n n (by omega) (Int.le_refl _) (by rw [hz2]; omega) (by omega)
  rw [hz1, Int.toNat_natCast] at this
  exact this

/-- Block g is a row of n types of which the first are l; what they lead to lies in other blocks, from base on. -/
def MRow (T : TypeId) (w : World) (base g n : Nat) (l : List Ty) : Prop :=
  ∃ (cur : Array Value) (ps : List (Option Addr × Nat)), w.heap[g]? = some (.cells cur T (0, 0)) ∧ cur.size = n * 4 ∧ ps.length = l.length ∧ l.length ≤ n ∧ (∀ (m : Nat) (u : Value), (tcells l ps)[m]? = some u → cur[m]? = some u) ∧
    ∀ (i : Nat) (t : Ty) (p : Option Addr × Nat), l[i]? = some t → ps[i]? = some p → TyIs w (fun b => base ≤ b ∧ b < w.heap.size ∧ b ≠ g) t (tval t p.1 p.2)
section
variable {T : TypeId} {w w' : World} {base g n : Nat} {l : List Ty}
theorem MRow.lt (h : MRow T w base g n l) : g < w.heap.size := by obtain ⟨cur, ps, h1, _⟩ := h; exact lt_of_block h1
theorem MRow.chg {F : List Nat} (h : MRow T w base g n l) (hc : Chg F w w') (hg : g ∉ F) (hF : ∀ k ∈ F, k < base) : MRow T w' base g n l := by
  obtain ⟨cur, ps, h1, h2, h3, h4, h5, h6⟩ := h
  refine ⟨cur, ps, (hc.block g (lt_of_block h1) hg).trans h1, h2, h3, h4, h5, fun i t p ht hp => ?_⟩
  exact ((h6 i t p ht hp).chg hc (fun b hb => ⟨hb.2.1, fun hm => by have := hF b hm; omega⟩)).mono fun b hb' => ⟨hb'.1, Nat.lt_of_lt_of_le hb'.2.1 hc.size, hb'.2.2⟩
theorem MRow.below (h : MRow T w base g n l) (hb : Below w.heap.size w w') : MRow T w' base g n l := h.chg (below_chg hb) (by simp) (by simp)
theorem MRow.made (w : World) (n : Nat) (base : Nat) : MRow T (w.alloc (.cells (madeCells zcells (n * 4)) T)) base w.heap.size n [] :=
  ⟨_, [], heap_alloc_new _ _, by simp [madeCells], rfl, Nat.zero_le _, fun m u h => by simp [tcells] at h, fun i t p h => by simp at h⟩
theorem set4 {cur : Array Value} {k : Nat} {y0 y1 y2 y3 : Value} (m : Nat) : ((((cur.setIfInBounds k y0).setIfInBounds (k + 1) y1).setIfInBounds (k + 2) y2).setIfInBounds (k + 3) y3)[m]? = if k + 4 ≤ cur.size then (if m = k then some y0 else if m = k + 1 then some y1 else if m = k + 2 then some y2 else if m = k + 3 then some y3 else cur[m]?) else ((((cur.setIfInBounds k y0).setIfInBounds (k + 1) y1).setIfInBounds (k + 2) y2).setIfInBounds (k + 3) y3)[m]? := by
  by_cases h : k + 4 ≤ cur.size
  · rw [if_pos h]
    simp only [Array.getElem?_setIfInBounds, Array.size_setIfInBounds]
    by_cases h0 : m = k
    · subst h0; simp; omega
    · by_cases h1 : m = k + 1
      · subst h1; simp; omega
      · by_cases h2 : m = k + 2
        · subst h2; simp; omega
        · by_cases h3 : m = k + 3
          · subst h3; simp; omega
          · simp [h0, h1, h2, h3, Ne.symm h0, Ne.symm h1, Ne.symm h2, Ne.symm h3]
  · rw [if_neg h]
theorem setc_block {w : World} {g o : Nat} {cur : Array Value} {t : TypeId} {u : Value} (h : w.heap[g]? = some (.cells cur t (0, 0))) : (w.setCell ⟨g, o, none⟩ u).heap[g]? = some (.cells (cur.setIfInBounds o u) t (0, 0)) := by
  have hlt := lt_of_block h
  have h' : w.heap[g] = .cells cur t (0, 0) := by simpa [Array.getElem?_eq_getElem hlt] using h
  show (w.heap.modify g _)[g]? = _
  rw [Array.getElem?_eq_getElem (by simpa using hlt), Array.getElem_modify_self, h']
  rfl
/-- What may be stored into. -/
theorem MRow.room (h : MRow T w base g n l) {i r : Nat} (hi : i < n) (hr : r < 4) : (w.cell? ⟨g, i * 4 + r, none⟩).isSome = true := by
  obtain ⟨cur, ps, h1, h2, _⟩ := h
  unfold World.cell?
  rw [h1]
  simp
  have : i * 4 + r < cur.size := by omega
  exact this
theorem MRow.free (h : MRow T w base g n l) (j : Nat) : w.frozen? ⟨g, j, none⟩ = false := by
  obtain ⟨cur, ps, h1, h2, _⟩ := h
  simp [World.frozen?, h1]
theorem MRow.set {t : Ty} {p : Option Addr × Nat} (h : MRow T w base g n l) (hl : l.length < n) (ht : TyIs w (fun b => base ≤ b ∧ b < w.heap.size ∧ b ≠ g) t (tval t p.1 p.2)) {i : Nat} (hi : i = l.length) :
    MRow T ((((w.setCell ⟨g, i * 4, none⟩ (.int .i64 t.op)).setCell ⟨g, i * 4 + 1, none⟩ (.int .i64 t.num)).setCell ⟨g, i * 4 + 2, none⟩ (.string t.text)).setCell ⟨g, i * 4 + 3, none⟩ (.slice p.1 t.kids.length p.2)) base g n (l ++ [t]) ∧
    Chg [g] w ((((w.setCell ⟨g, i * 4, none⟩ (.int .i64 t.op)).setCell ⟨g, i * 4 + 1, none⟩ (.int .i64 t.num)).setCell ⟨g, i * 4 + 2, none⟩ (.string t.text)).setCell ⟨g, i * 4 + 3, none⟩ (.slice p.1 t.kids.length p.2)) := by
  subst hi
  have hc : Chg [g] w ((((w.setCell ⟨g, l.length * 4, none⟩ (.int .i64 t.op)).setCell ⟨g, l.length * 4 + 1, none⟩ (.int .i64 t.num)).setCell ⟨g, l.length * 4 + 2, none⟩ (.string t.text)).setCell ⟨g, l.length * 4 + 3, none⟩ (.slice p.1 t.kids.length p.2)) :=
    ((((Chg.refl [g] w).setCell (p := ⟨g, l.length * 4, none⟩) (.inl (by simp)) _).setCell (p := ⟨g, l.length * 4 + 1, none⟩) (.inl (by simp)) _).setCell (p := ⟨g, l.length * 4 + 2, none⟩) (.inl (by simp)) _).setCell (p := ⟨g, l.length * 4 + 3, none⟩) (.inl (by simp)) _
  refine ⟨?_, hc⟩
  obtain ⟨cur, ps, h1, h2, h3, h4, h5, h6⟩ := h
  have k1 := setc_block (o := l.length * 4) (u := .int .i64 t.op) h1
  have k2 := setc_block (o := l.length * 4 + 1) (u := .int .i64 t.num) k1
  have k3 := setc_block (o := l.length * 4 + 2) (u := .string t.text) k2
  have k4 := setc_block (o := l.length * 4 + 3) (u := .slice p.1 t.kids.length p.2) k3
  have hlen := tcells_length h3
  refine ⟨_, ps ++ [p], k4, by simp [h2], by simp [h3], by simp; omega, fun m u hm => ?_, fun i u q hu hq => ?_⟩
  · rw [set4, if_pos (by omega)]
    rw [tcells_snoc h3] at hm
    by_cases hlt : m < l.length * 4
    · rw [List.getElem?_append_left (by omega)] at hm
      rw [if_neg (by omega), if_neg (by omega), if_neg (by omega), if_neg (by omega)]
      exact h5 m u hm
    · rw [List.getElem?_append_right (by omega), hlen] at hm
      have hb : m - l.length * 4 < 4 := by have := (List.getElem?_eq_some_iff.1 hm).1; simpa [tcell] using this
      have : m = l.length * 4 ∨ m = l.length * 4 + 1 ∨ m = l.length * 4 + 2 ∨ m = l.length * 4 + 3 := by omega
      rcases this with rfl | rfl | rfl | rfl
      · rw [Nat.sub_self] at hm; simp [tcell] at hm; rw [if_pos rfl, hm]
      · rw [show l.length * 4 + 1 - l.length * 4 = 1 by omega] at hm; simp [tcell] at hm; rw [if_neg (by omega), if_pos rfl, hm]
      · rw [show l.length * 4 + 2 - l.length * 4 = 2 by omega] at hm; simp [tcell] at hm; rw [if_neg (by omega), if_neg (by omega), if_pos rfl, hm]
      · rw [show l.length * 4 + 3 - l.length * 4 = 3 by omega] at hm; simp [tcell] at hm; rw [if_neg (by omega), if_neg (by omega), if_neg (by omega), if_pos rfl, hm]
  · have keep : ∀ {u : Ty} {x : Value}, TyIs w (fun b => base ≤ b ∧ b < w.heap.size ∧ b ≠ g) u x → TyIs _ (fun b => base ≤ b ∧ b < _ ∧ b ≠ g) u x := fun hv =>
      (hv.chg hc (fun b hb => ⟨hb.2.1, by simpa using hb.2.2⟩)).mono fun b hb => ⟨hb.1, Nat.lt_of_lt_of_le hb.2.1 hc.size, hb.2.2⟩
    by_cases hi : i < l.length
    · rw [List.getElem?_append_left hi] at hu
      rw [List.getElem?_append_left (by omega)] at hq
      exact keep (h6 i u q hu hq)
    · have : i = l.length := by
        have := (List.getElem?_eq_some_iff.1 hu).1
        simp at this; omega
      subst this
      rw [List.getElem?_append_right (Nat.le_refl _), Nat.sub_self] at hu
      rw [List.getElem?_append_right (by omega), h3, Nat.sub_self] at hq
      cases hu; cases hq
      exact keep ht
theorem MRow.all (h : MRow T w base g n l) : TysAt w (fun b => (base ≤ b ∨ b = g) ∧ b < w.heap.size) l (some ⟨g, 0, none⟩) 0 := by
  obtain ⟨cur, ps, h1, h2, h3, h4, h5, h6⟩ := h
  refine TysAt.mk fun i t ht => ?_
  have hil := (List.getElem?_eq_some_iff.1 ht).1
  obtain ⟨p, hp⟩ : ∃ p, ps[i]? = some p := ⟨_, List.getElem?_eq_getElem (by omega)⟩
  have c : ∀ r, r < 4 → w.cell? ⟨g, i * 4 + r, none⟩ = (tcell t p)[r]? := fun r hr' => by
    have e := tcells_get ht hp hr'
    obtain ⟨u, hu⟩ : ∃ u, (tcell t p)[r]? = some u := ⟨_, List.getElem?_eq_getElem (by simpa [tcell] using hr')⟩
    rw [hu] at e ⊢
    have := h5 _ _ e
    simp [World.cell?, h1, this]
  refine ⟨g, 0, _, _, _, _, rfl, ⟨.inr rfl, lt_of_block h1⟩, ?_, ?_, ?_, ?_, (h6 i t p ht hp).mono fun b hb' => ⟨.inl hb'.1, hb'.2.1⟩⟩
  · rw [Nat.zero_add, Nat.zero_add]; exact c 0 (by omega)
  · rw [Nat.zero_add, Nat.zero_add]; exact c 1 (by omega)
  · rw [Nat.zero_add, Nat.zero_add]; exact c 2 (by omega)
  · rw [Nat.zero_add, Nat.zero_add]; exact c 3 (by omega)
end

theorem own_new {W wr w5 : World} {H g : Nat} {T : TypeId} {n : Nat} {l : List Ty} {t : Ty} {x : Value} {o : Obj} (h : MRow T wr W.heap.size g n l) (hs : W.heap.size ≤ wr.heap.size) (hv : TyIs w5 (fun b => (wr.alloc o).heap.size ≤ b ∧ b < w5.heap.size) t x) (hw : W.heap.size = H + 3) : TyIs w5 (fun b => W.heap.size ≤ b ∧ b < w5.heap.size ∧ b ≠ g) t x :=
  hv.mono fun b hb => by
    have h1 : wr.heap.size + 1 ≤ b := by simpa using hb.1
    have := h.lt
    exact ⟨by omega, hb.2, by omega⟩
theorem own_ret {w : World} {H : Nat} {a b c d x y0 y1 y2 y3 : Value} {t : TypeId} (h : w.heap[H + 1]? = some (.cells #[a, b, c, d] t (0, 0))) :
    (((((w.setCell ⟨H, 3, none⟩ x).setCell ⟨H + 1, 0, none⟩ y0).setCell ⟨H + 1, 1, none⟩ y1).setCell ⟨H + 1, 2, none⟩ y2).setCell ⟨H + 1, 3, none⟩ y3).heap[H + 1]? = some (.cells #[y0, y1, y2, y3] t (0, 0)) ∧
    Chg [H, H + 1] w (((((w.setCell ⟨H, 3, none⟩ x).setCell ⟨H + 1, 0, none⟩ y0).setCell ⟨H + 1, 1, none⟩ y1).setCell ⟨H + 1, 2, none⟩ y2).setCell ⟨H + 1, 3, none⟩ y3) := by
  have c1 := chg1_set w H 3 x
  have h1 := (c1.block (H + 1) (lt_of_block h) (by simp)).trans h
  obtain ⟨z1, z2⟩ := four_ret (y0 := y0) (y1 := y1) (y2 := y2) (y3 := y3) h1
  exact ⟨z1, (c1.mono (by simp)).trans z2 (fun k hk => .inl (by simp at hk; simp [hk]))⟩
theorem own_end {T : TypeId} {w W wr wz : World} {H n : Nat} {l : List Ty} (hm : MRow T wr W.heap.size (H + 1 + 1) n l) (hz : Chg [H, H + 1] wr wz) (hb : Below H w wr) (hs : W.heap.size ≤ wr.heap.size) (hw : W.heap.size = H + 3) :
    TysAt wz (fun b => H ≤ b ∧ b < wz.heap.size) l (some ⟨H + 1 + 1, 0, none⟩) 0 ∧ Below H w wz := by
  refine ⟨?_, hb.trans (hz.below (by omega) (by simp))⟩
  refine (hm.all.chg hz (fun b hb => ⟨hb.2, ?_⟩)).mono fun b hb => ⟨?_, Nat.lt_of_lt_of_le hb.2 hz.size⟩
  · rcases hb.1 with h | h <;> simp <;> omega
  · rcases hb.1 with h | h <;> omega
def OwnLoop (T : TypeId) (W : World) (g : Nat) (l : List Ty) (gk : Nat) (s19 : Value) (wr : World) : Prop :=
  ∃ (i : Nat), s19 = .int .i64 i ∧ i + gk = l.length ∧ MRow T wr W.heap.size g l.length (l.take i) ∧ Chg [g] W wr
theorem mrow_cells {T : TypeId} {w : World} {base g n : Nat} {l : List Ty} (h : MRow T w base g n l) {i : Nat} (hi : i < n) : ∃ v0 v1 v2 v3, w.cell? ⟨g, i * 4, none⟩ = some v0 ∧ w.cell? ⟨g, i * 4 + 1, none⟩ = some v1 ∧ w.cell? ⟨g, i * 4 + 2, none⟩ = some v2 ∧ w.cell? ⟨g, i * 4 + 3, none⟩ = some v3 := by
  obtain ⟨v0, h0⟩ := Option.isSome_iff_exists.1 (h.room hi (r := 0) (by omega))
  obtain ⟨v1, h1⟩ := Option.isSome_iff_exists.1 (h.room hi (r := 1) (by omega))
  obtain ⟨v2, h2⟩ := Option.isSome_iff_exists.1 (h.room hi (r := 2) (by omega))
  obtain ⟨v3, h3⟩ := Option.isSome_iff_exists.1 (h.room hi (r := 3) (by omega))
  exact ⟨v0, v1, v2, v3, h0, h1, h2, h3⟩
set_option maxRecDepth 100000 in
set_option maxHeartbeats 1600000 in
theorem own_walk (k : Nat) : ∀ (t : Ty) (v : Value) (w : World) (P : Nat → Prop), t.sz ≤ k → t.sz ≤ 100000 → TyIs w P t v → (∀ b, P b → b < w.heap.size) →
    Calls Tryd.prog 35 #[v] w (NewTy w t) := by
  induction k with
  | zero => intro t v w P hk; have := t.sz_pos; omega
  | succ k ih =>
    intro t v w P hk hsz ht hP
    obtain ⟨ao, cap, rfl, a1, a2, a3, a4, a5, a6⟩ := ht.get
    have HA3 := Lib.hid a3
    have HA4 := Lib.hid a4
    have HKL : Hid (t.kids.length < 100000) := Nat.lt_of_lt_of_le t.kids_len hsz
    have HKS : Hid (∀ (i : Nat) (u : Ty), t.kids[i]? = some u → u.sz ≤ k ∧ u.sz ≤ 100000) := fun i u hu => by have := Ty.kid_sz hu; omega
    have HEND : Hid (∀ (e : Ending) (w' : World), (∃ ao cap, e = .returned (.agg #[.int .i64 t.op, .int .i64 t.num, .string t.text, .slice ao t.kids.length cap]) ∧ TyIs w' (fun b => w.heap.size ≤ b ∧ b < w'.heap.size) t (tval t ao cap) ∧ Below w.heap.size w w') → NewTy w t e w') := fun e w' h => h
    have HMK : Hid (∀ (w' : World) ao cap, t.kids.length ≤ cap → cap ≤ maxLen → (ao = none → cap = 0) → TysAt w' (fun b => w.heap.size ≤ b ∧ b < w'.heap.size) t.kids ao 0 → TyIs w' (fun b => w.heap.size ≤ b ∧ b < w'.heap.size) t (tval t ao cap)) := fun w' ao cap h1 h2 h3 h4 => TyIs.mk h1 h2 a3 a4 h3 h4
    clear a3 a4 a5 ht hk hsz
    unfold tval
    unfold maxLen at a2
    have HK6 := Lib.hid a6
    clear a6
    generalize t.op = x0 at *
    generalize t.num = x1 at *
    generalize t.text = x2 at *
    generalize hl : t.kids = l at *
    clear hl
    have hlen : (l.length : Int) ≤ 100000 := by have := HKL.out; omega
    by_cases h0 : l.length = 0
    · have hl0 : l = [] := List.length_eq_zero_iff.1 h0
      subst hl0
      go_enter Tryd.func35, Tryd.ntmps35
      go_wp2
      refine bodyPost_ret (v := .agg #[.int .i64 x0, .int .i64 x1, .string x2, .slice none 0 0]) (by simp [results, Tryd.results35, go_sem]) rfl ?_
      exact HEND.out _ _ ⟨none, 0, rfl, HMK.out _ _ _ (Nat.le_refl _) (Nat.zero_le _) (fun _ => rfl) TysAt.nil, by first | exact ((Below.refl _ _).alloc (Nat.le_refl _) _).alloc (by simp) _ | trace_state⟩
    · have hpos : 0 < l.length := by omega
      have hne : ((l.length : Int) == 0) = false := by simp; intro e; rw [e] at hpos; simp at hpos
      have hmk := fun W => run_makeK l.length (by have := HKL.out; omega) W
      clear h0
      go_enter Tryd.func35, Tryd.ntmps35
      go_wp2
      generalize hW : (((w.alloc _).alloc _).alloc _) = W
      have SW : Hid (W.heap.size = w.heap.size + 3) := by show _ = _; rw [← hW]; simp
      have ZA : Hid (W.heap[w.heap.size]? = some (.cells #[.int .i64 x0, .int .i64 x1, .string x2, .slice ao l.length cap] 25 (0, 0))) := by
        show _ = _
        rw [← hW]; exact (heap_alloc_old _ _ (by simp; omega)).trans ((heap_alloc_old _ _ (by simp)).trans (heap_alloc_new _ _))
      have ZB : Hid (W.heap[w.heap.size + 1]? = some (.cells #[.int .i64 0, .int .i64 0, .string ⟨#[]⟩, .slice none 0 0] 25 (0, 0))) := by
        show _ = _
        rw [← hW]; exact (heap_alloc_old _ _ (by simp)).trans (heap_new2 w _ _)
      have ZM : Hid (MRow 25 W W.heap.size (w.heap.size + 1 + 1) l.length []) := by
        rw [← hW]
        have := MRow.made (T := 25) ((w.alloc (.cells #[.int .i64 x0, .int .i64 x1, .string x2, .slice ao l.length cap] 25)).alloc (.cells #[.int .i64 0, .int .i64 0, .string ⟨#[]⟩, .slice none 0 0] 25)) l.length
        simp only [World.size_alloc] at this ⊢
        exact this _
      have BW : Hid (Below w.heap.size w W) := by rw [← hW]; exact (((Below.refl _ _).alloc (Nat.le_refl _) _).alloc (by simp) _).alloc (by simp; omega) _
      clear hW hmk
      have HL : Hid (OwnLoop 25 W (w.heap.size + 1 + 1) l l.length (.int .i64 0) W) := ⟨0, rfl, by omega, ZM.out, Chg.refl _ _⟩
      go_loopg [19] l.length (fun gk s19 wr => OwnLoop 25 W (w.heap.size + 1 + 1) l gk s19 wr)
      case atStart => exact HL.out
      case round =>
        clear HL ZM
        obtain ⟨i, rfl, hik, hm, hc⟩ := hrel
        have hs0 := SW.out
        have hA : wr.heap[w.heap.size]? = some (.cells #[.int .i64 x0, .int .i64 x1, .string x2, .slice ao l.length cap] 25 (0, 0)) := (hc.block w.heap.size (by omega) (by simp; omega)).trans ZA.out
        have hB : wr.heap[w.heap.size + 1]? = some (.cells #[.int .i64 0, .int .i64 0, .string ⟨#[]⟩, .slice none 0 0] 25 (0, 0)) := (hc.block (w.heap.size + 1) (by omega) (by simp)).trans ZB.out
        have HA := Lib.hid hA
        have HB := Lib.hid hB
        have HM := Lib.hid hm
        have HC := Lib.hid hc
        have BWR : Hid (Below w.heap.size w wr) := BW.out.trans (hc.below (by omega) (by simp; omega))
        clear hA hB hm hc hs0
        have g0 : (0 : Int) ≤ (i : Int) := by omega
        by_cases hlt : i < l.length
        · have g1 : (i : Int) < (l.length : Int) := by omega
          obtain ⟨tk, htk⟩ : ∃ u, l[i]? = some u := ⟨_, List.getElem?_eq_getElem hlt⟩
          obtain ⟨bb, oo, rfl, hbb⟩ := HK6.out.addr htk
          obtain ⟨_, ak, ck, p0, p1, p2, p3, hvk⟩ := HK6.out.cells htk
          rw [Nat.zero_add] at p0 p1 p2 p3
          have hbb' := hP _ hbb
          replace p0 := (BWR.out.cell (p := ⟨bb, oo + i * 4, none⟩) hbb').trans p0
          replace p1 := (BWR.out.cell (p := ⟨bb, oo + i * 4 + 1, none⟩) hbb').trans p1
          replace p2 := (BWR.out.cell (p := ⟨bb, oo + i * 4 + 2, none⟩) hbb').trans p2
          replace p3 := (BWR.out.cell (p := ⟨bb, oo + i * 4 + 3, none⟩) hbb').trans p3
          have HCALL := Lib.hid (ih tk _ (wr.alloc (.cells #[.int .i64 tk.op, .int .i64 tk.num, .string tk.text, .slice ak tk.kids.length ck] 25)) P (HKS.out i tk htk).1 (HKS.out i tk htk).2 ((hvk.below BWR.out hP).below ((Below.refl _ _).alloc (Nat.le_refl _) _) (fun b hb => Nat.lt_of_lt_of_le (hP b hb) BWR.out.size)) (fun b hb => by have := hP b hb; have := BWR.out.size; simp; omega))
          have HTK := Lib.hid htk
          clear hvk htk
          unfold tval NewTy at HCALL
          go_wp2_with (go_at_call 35; refine HCALL.out.mono ?_; clear HCALL; rintro e w5 ⟨ao5, cap5, rfl, hv5, hb5⟩; have hb5' : Below wr.heap.size wr w5 := (((Below.refl _ _).alloc (Nat.le_refl _) _).trans (hb5.mono (by simp))); have hm5 := HM.out.below hb5'; obtain ⟨m0, m1, m2, m3, q0, q1, q2, q3⟩ := mrow_cells hm5 hlt; have q4 := (fun j => hm5.free j); have M5 := Lib.hid hm5; have B5 := Lib.hid hb5'; have V5 := Lib.hid hv5; clear hb5 hb5' hm5 hv5)
          obtain ⟨n1, n2⟩ := M5.out.set (t := tk) (p := (ao5, cap5)) (i := i) (by rw [List.length_take]; omega) (own_new HM.out HC.out.size V5.out SW.out) (by rw [List.length_take]; omega)
          go_roundg (gk - 1)
          case measure => omega
          case rel => exact ⟨i + 1, by go_num, by omega, by rw [take_snoc HTK.out]; exact n1, (HC.out.trans (below_chg B5.out) (fun k hk => by simp at hk)).trans n2 (fun k hk => .inl hk)⟩
        · obtain rfl : i = l.length := by omega
          obtain ⟨b0, b1, b2, b3, b4⟩ := hdr4_cells HB.out
          obtain ⟨a0, a1, a2, a3, a4⟩ := hdr4_cells HA.out
          go_wp2
          obtain ⟨z1, z2⟩ := own_ret (y0 := .int .i64 x0) (y1 := .int .i64 x1) (y2 := .string x2) (y3 := .slice (some ⟨w.heap.size + 1 + 1, 0, none⟩) l.length l.length) (x := .slice (some ⟨w.heap.size + 1 + 1, 0, none⟩) l.length l.length) HB.out
          generalize (((((World.setCell _ _ _).setCell _ _).setCell _ _).setCell _ _).setCell _ _) = wz at z1 z2 ⊢
          obtain ⟨y0, y1, y2, y3, _⟩ := hdr4_cells z1
          refine bodyPost_ret (v := .agg #[.int .i64 x0, .int .i64 x1, .string x2, .slice (some ⟨w.heap.size + 1 + 1, 0, none⟩) l.length l.length]) (by simp [results, Tryd.results35, go_sem, y0, y1, y2, y3]) rfl ?_
          have hm := HM.out
          rw [List.take_length] at hm
          obtain ⟨n1, n2⟩ := own_end hm z2 BWR.out HC.out.size SW.out
          exact HEND.out _ _ ⟨_, _, rfl, HMK.out _ _ _ (Nat.le_refl _) (by have := HKL.out; unfold maxLen; omega) (fun e => by cases e) n1, n2⟩
end Go.Proofs.YthchkekegkhanaaDoor
