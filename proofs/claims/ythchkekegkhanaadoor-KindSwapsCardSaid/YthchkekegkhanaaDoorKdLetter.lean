/- The program's Vars. -/
import Derived.Test.YthchkekegkhanaaDoorKdRSolve
import Derived.Test.YthchkekegkhanaaDoorIRow
import Derived.Laws.IdiomStrings
namespace Go.Proofs.YthchkekegkhanaaDoor
open Go.RowKit Go.Maps
set_option linter.unusedVariables false

/-- m[k], as an equation on the run. -/
theorem VMap.look1 {P : Program} {K E : TypeId} {w : World} {b n : Nat} {f : Int → Option Value} (h : VMap P K w b n f) {t : TypeId} (hk : P.underlying K = some (.int .i64)) (ht : P.underlying t = some (.map K E)) {z : Value} (hz : (zeroValue E).run P w = .ok z w) {key : Int} (hkw : (Lit.int .i64 key).wf = true) :
    (Instr.lookup t (.map (some b)) (.int .i64 key) false).run P w = .ok ((f key).getD z) w := by
  obtain ⟨D, hown, hf⟩ := h
  obtain ⟨v, ps, hrun, hv⟩ := hown.lookup (int_keyed hk) ht hz (zd := .held z) (zp := []) rfl (keyOf_int_mk hk hkw)
  have e : D.atKey (.int .i64 key) (.held z) = .held v := by
    simp only [heldElem, Option.some.injEq, Prod.mk.injEq] at hv
    exact hv.1.symm
  have h1 := vmapAt_val e
  rw [hf key] at h1
  rw [hrun, ← h1]
namespace Ty
mutual
/-- The variables, each once, as they come first. -/
def vrs : Ty → List Int → List Int
  | var n, h => if n ∈ h then h else h ++ [n]
  | con _ l, h => vrss l h
def vrss : List Ty → List Int → List Int
  | [], h => h
  | t :: l, h => vrss l (vrs t h)
end
theorem vrs_len : ∀ (k : Nat) (t : Ty) (h : List Int), t.sz ≤ k → (vrs t h).length ≤ h.length + t.sz
  | 0, t, h, hk => by have := t.sz_pos; omega
  | k + 1, var n, h, hk => by
    rw [vrs, sz]
    split
    · omega
    · simp
  | k + 1, con c l, h, hk => by
    rw [sz] at hk
    have hl : ∀ (l : List Ty) (h : List Int), szs l ≤ k → (vrss l h).length ≤ h.length + szs l := by
      intro l
      induction l with
      | nil => intro h _; rw [vrss]; omega
      | cons t l ih =>
        intro h hk
        rw [szs] at hk ⊢
        rw [vrss]
        have := ih (vrs t h) (by omega)
        have := vrs_len k t h (by omega)
        omega
    rw [vrs, sz]
    have := hl l h (by omega)
    omega
end Ty
theorem zeroB (w : World) : (zeroValue 4).run Tryd.prog w = .ok (.bool false) w := by kernel_rfl

/-- What was seen: in the map at b, and in the row that q leads to. -/
structure Seen (w : World) (b q : Nat) (h : List Int) (vo : Value) : Prop where
  map : ∃ f, VMap Tryd.prog 3 w b h.length f ∧ ∀ k, f k = if k ∈ h then some (.bool true) else none
  box : w.heap[q]? = some (.cells #[vo] 56 (0, 0))
  row : IRow w 0 vo h
  ne : b ≠ q
  n1 : vo.ownBlock ≠ some b
  n2 : vo.ownBlock ≠ some q
def Vr (w : World) (b q : Nat) (vo : Value) : Nat → Prop := fun x => x < w.heap.size ∧ x ≠ b ∧ x ≠ q ∧ vo.ownBlock ≠ some x
def VStep (b q : Nat) (w : World) (vo : Value) (w' : World) (vo' : Value) : Prop := Chg (b :: q :: vo.ownBlock.toList) w w' ∧ (vo'.ownBlock = vo.ownBlock ∨ ∃ j, vo'.ownBlock = some j ∧ w.heap.size ≤ j)
section
variable {w w' w2 : World} {b q : Nat} {h : List Int} {vo vo' vo2 : Value}
theorem VStep.refl (b q : Nat) (w : World) (vo : Value) : VStep b q w vo w vo := ⟨Chg.refl _ _, .inl rfl⟩
theorem VStep.trans (k : VStep b q w vo w' vo') (k2 : VStep b q w' vo' w2 vo2) : VStep b q w vo w2 vo2 := by
  refine ⟨k.1.trans k2.1 (fun j hj => ?_), ?_⟩
  · simp only [List.mem_cons] at hj
    rcases hj with rfl | rfl | hj
    · exact .inl (by simp)
    · exact .inl (by simp)
    · have hj' := Option.mem_toList.1 hj
      rcases k.2 with e | ⟨i, e, hi⟩
      · rw [e] at hj'; exact .inl (by simp [hj'])
      · rw [e] at hj'; cases hj'; exact .inr hi
  · rcases k2.2 with e | ⟨i, e, hi⟩
    · rw [e]; exact k.2
    · exact .inr ⟨i, e, Nat.le_trans k.1.size hi⟩
theorem VStep.made (vo : Value) (hb : Below w.heap.size w w') : VStep b q w vo w' vo := ⟨(below_chg hb).mono (by simp), .inl rfl⟩
theorem TyIs.vstep {t : Ty} {x : Value} (ht : TyIs w (Vr w b q vo) t x) (hs : VStep b q w vo w' vo') : TyIs w' (Vr w' b q vo') t x := by
  refine (ht.chg hs.1 (fun k hk => ⟨hk.1, fun hm => ?_⟩)).mono fun k hk => ⟨Nat.lt_of_lt_of_le hk.1 hs.1.size, hk.2.1, hk.2.2.1, fun e => ?_⟩
  · simp only [List.mem_cons] at hm
    rcases hm with rfl | rfl | hm
    · exact hk.2.1 rfl
    · exact hk.2.2.1 rfl
    · exact hk.2.2.2 (Option.mem_toList.1 hm)
  · rcases hs.2 with e2 | ⟨j, e2, hj⟩
    · rw [e2] at e; exact hk.2.2.2 e
    · rw [e2] at e; cases e; have := hk.1; omega
theorem Seen.lt (hs : Seen w b q h vo) : b < w.heap.size ∧ q < w.heap.size ∧ ∀ k, vo.ownBlock = some k → k < w.heap.size := by
  obtain ⟨f, hf, _⟩ := hs.map
  exact ⟨hf.lt, lt_of_block hs.box, fun k hk => hs.row.1.lt hk⟩
theorem Seen.below (hs : Seen w b q h vo) (hb : Below w.heap.size w w') : Seen w' b q h vo := by
  obtain ⟨f, hf, hk⟩ := hs.map
  exact ⟨⟨f, hf.chg (below_chg hb) (by simp), hk⟩, (hb.block q (lt_of_block hs.box)).trans hs.box, hs.row.below hb, hs.ne, hs.n1, hs.n2⟩
theorem v_new {k : Nat} (hs : Seen w b q h vo) (hk : w.heap.size ≤ k) : k ∉ b :: q :: vo.ownBlock.toList := by
  obtain ⟨h1, h2, h3⟩ := hs.lt
  intro hm
  simp only [List.mem_cons] at hm
  rcases hm with rfl | rfl | hm
  · omega
  · omega
  · have := h3 k (Option.mem_toList.1 hm); omega
theorem v_not {k : Nat} (hk : Vr w b q vo k) : k ∉ b :: q :: vo.ownBlock.toList := by
  intro hm
  simp only [List.mem_cons] at hm
  rcases hm with rfl | rfl | hm
  · exact hk.2.1 rfl
  · exact hk.2.2.1 rfl
  · exact hk.2.2.2 (Option.mem_toList.1 hm)
end
theorem vars_box {w9 w20 : World} {q : Nat} {A : Array Value} {t : TypeId} {o : Obj} {v v20 : Value} (ho : OwnStep (w9.drew.alloc o) v w20 v20) (hz : w9.heap[q]? = some (.cells A t (0, 0))) (hn : v.ownBlock ≠ some q) : w20.heap[q]? = some (.cells A t (0, 0)) := by
  have hlt := lt_of_block hz
  exact (ho.1.block q (by simp; omega) (by simpa using hn)).trans ((heap_alloc_old w9.drew o hlt).trans hz)
theorem vars_next {w w9 w20 : World} {b q : Nat} {h : List Int} {vo v20 : Value} {n : Int} {f : Int → Option Value} {o o2 : Obj} (hs : Seen w b q h vo) (hk : ∀ k, f k = if k ∈ h then some (.bool true) else none) (hn : n ∉ h) (hm : VMap Tryd.prog 3 w9 b (h.length + 1) (fun j => if j = n then some (.bool true) else f j)) (hc : Chg [b] (w.alloc o) w9)
    (ho : OwnStep (w9.drew.alloc o2) vo w20 v20) (hr : IRow w20 0 v20 (h ++ [n])) (hz : w20.heap[q]? = some (.cells #[vo] 56 (0, 0))) :
    ∃ vo', Ending.returned (.tuple #[]) = .returned (.tuple #[]) ∧ Seen (w20.setCell ⟨q, 0, none⟩ v20) b q (h ++ [n]) vo' ∧ VStep b q w vo (w20.setCell ⟨q, 0, none⟩ v20) vo' := by
  obtain ⟨l1, l2, l3⟩ := hs.lt
  have hs9 := hc.size
  simp only [World.size_alloc] at hs9
  have c1 : Chg (b :: q :: vo.ownBlock.toList) w w9 := ((below_chg ((Below.refl _ _).alloc (Nat.le_refl _) o)).mono (F' := b :: q :: vo.ownBlock.toList) (by simp)).trans hc (fun k hk => .inl (by simp at hk; simp [hk]))
  have c2 : Chg (b :: q :: vo.ownBlock.toList) w (w9.drew.alloc o2) := (c1.drewN 1).alloc o2
  have c3 : Chg (b :: q :: vo.ownBlock.toList) w w20 := c2.trans ho.1 (fun k hk => .inl (by simp [Option.mem_toList.1 hk]))
  have c4 : Chg (b :: q :: vo.ownBlock.toList) w (w20.setCell ⟨q, 0, none⟩ v20) := c3.setCell (.inl (by simp)) _
  have hnb : v20.ownBlock ≠ some b ∧ v20.ownBlock ≠ some q := by
    rcases ho.2 with e | ⟨j, e, hj⟩
    · rw [e]; exact ⟨hs.n1, hs.n2⟩
    · rw [e]
      simp at hj
      exact ⟨by simp; omega, by simp; omega⟩
  have hst : VStep b q w vo (w20.setCell ⟨q, 0, none⟩ v20) v20 := by
    refine ⟨c4, ?_⟩
    rcases ho.2 with e | ⟨j, e, hj⟩
    · exact .inl e
    · exact .inr ⟨j, e, by simp at hj; omega⟩
  refine ⟨v20, rfl, ⟨⟨fun j => if j = n then some (.bool true) else f j, ?_, fun k => ?_⟩, (setc_block hz).trans rfl, ⟨hr.1.chg (chg1_set w20 q 0 v20) (fun k hk hm => by simp at hm; subst hm; exact hnb.2 hk), fun _ _ => Nat.zero_le _⟩, hs.ne, hnb.1, hnb.2⟩, hst⟩
  · have m1 : VMap Tryd.prog 3 (w9.drew.alloc o2) b (h.length + 1) (fun j => if j = n then some (.bool true) else f j) := (VMap.drewN hm 1).alloc o2
    have m2 := m1.chg ho.1 (by simpa using hs.n1)
    have m3 := m2.chg (chg1_set w20 q 0 v20) (by have := hs.ne; simpa using this)
    rw [List.length_append, List.length_singleton]
    exact m3
  · by_cases e : k = n
    · subst e; simp
    · simp [e, hk k]
def VarsEnd (w : World) (b q : Nat) (vo : Value) (h : List Int) (e : Ending) (w' : World) : Prop := ∃ vo', e = .returned (.tuple #[]) ∧ Seen w' b q h vo' ∧ VStep b q w vo w' vo'
def VarsLoop (b q : Nat) (W : World) (vo : Value) (l : List Ty) (h0 : List Int) (gk : Nat) (s31 : Value) (wr : World) : Prop :=
  ∃ (i : Nat) (h : List Int) (vi : Value), s31 = .int .i64 i ∧ i + gk = l.length ∧ Seen wr b q h vi ∧ h.length + Ty.szs (l.drop i) ≤ h0.length + Ty.szs l ∧ Ty.vrss l h0 = Ty.vrss (l.drop i) h ∧ VStep b q W vo wr vi
set_option maxRecDepth 100000 in
set_option maxHeartbeats 1600000 in
theorem vars_walk {b q : Nat} (k : Nat) : ∀ (t : Ty) (v : Value) (w : World) (h : List Int) (vo : Value), t.sz ≤ k → TyIs w (Vr w b q vo) t v → Seen w b q h vo → h.length + t.sz ≤ 100000 →
    Calls Tryd.prog 40 #[v, .map (some b), .pointer (some ⟨q, 0, none⟩)] w (VarsEnd w b q vo (Ty.vrs t h)) := by
  induction k with
  | zero => intro t v w h vo hk; have := t.sz_pos; omega
  | succ k ih =>
    intro t v w h vo hk ht hs hln
    have hb1 := fun (o : Obj) => (Below.refl w.heap.size w).alloc (Nat.le_refl _) o
    cases t with
    | var n =>
      obtain ⟨ao, cap, rfl, _, hwn, _⟩ := ht.var
      obtain ⟨f, hf, hfk⟩ := hs.map
      have HS := Lib.hid hs
      have HF := Lib.hid hf
      have HFK := Lib.hid hfk
      rw [Ty.sz] at hln
      by_cases hn : n ∈ h
      · have hv : Hid (Ty.vrs (.var n) h = h) := by show _ = _; rw [Ty.vrs, if_pos hn]
        have hfn : f n = some (.bool true) := by rw [hfk, if_pos hn]
        have hlk : ∀ o, (Instr.lookup 76 (.map (some b)) (.int .i64 n) false).run Tryd.prog (w.alloc o) = .ok (.bool true) (w.alloc o) := fun o => by
          have := (hf.alloc o).look1 (t := 76) Tryd.underlying3 Tryd.underlying76 (zeroB _) hwn
          rw [hfn] at this; exact this
        have HB1 := Lib.hid hb1
        clear hs hf hfk ht hn hfn hb1
        go_enter Tryd.func40, Tryd.ntmps40
        go_wp2
        refine bodyPost_ret (v := .tuple #[]) (by simp [results, Tryd.results40, go_sem]) rfl ?_
        rw [hv.out]
        exact ⟨vo, rfl, HS.out.below (HB1.out _), .made vo (HB1.out _)⟩
      · have hv : Hid (Ty.vrs (.var n) h = h ++ [n]) := by show _ = _; rw [Ty.vrs, if_neg hn]
        have hfn : f n = none := by rw [hfk, if_neg hn]
        have hlk : ∀ o, (Instr.lookup 76 (.map (some b)) (.int .i64 n) false).run Tryd.prog (w.alloc o) = .ok (.bool false) (w.alloc o) := fun o => by
          have := (hf.alloc o).look1 (t := 76) Tryd.underlying3 Tryd.underlying76 (zeroB _) hwn
          rw [hfn] at this; exact this
        have HN := Lib.hid hn
        clear hs hf hfk ht hn hfn hb1
        go_enter Tryd.func40, Tryd.ntmps40
        go_wp2_with (at_mapUpdate; refine wpList_update_vmap rfl _ _ _ 76 rfl Tryd.underlying3 Tryd.underlying76 (VMap.alloc HF.out _) (by unfold maxLen; omega) rfl n (.bool true) rfl rfl hwn ?_; intro w9 hm9 hc9)
        obtain ⟨l1, l2, l3⟩ := HS.out.lt
        have zq := (hc9.block q (by simp; omega) (by have := HS.out.ne; simp; exact fun e => this e.symm)).trans ((heap_alloc_old w _ l2).trans HS.out.box)
        have zH := (hc9.block w.heap.size (by simp) (by simp; omega)).trans (heap_alloc_new w _)
        have hr9 : IRow w9 0 vo h := ⟨(HS.out.row.below ((Below.refl _ _).alloc (Nat.le_refl _) _)).1.chg hc9 (fun k hk hm => by simp at hm; subst hm; exact HS.out.n1 hk), fun _ _ => Nat.zero_le _⟩
        obtain ⟨c0, c1, c2, c3, c4⟩ := hdr4_cells zH
        have d0 : w9.cell? ⟨q, 0, none⟩ = some vo := by simp [World.cell?, zq]
        have d1 : ∀ j, w9.frozen? ⟨q, j, none⟩ = false := fun j => by simp [World.frozen?, zq]
        have d2 := fun o => new_ne' w9 d0 o
        obtain ⟨aov, capv, hvo, _, _⟩ := hr9.form
        have HR9 := Lib.hid hr9
        have HM9 := Lib.hid hm9
        have HC9 := Lib.hid hc9
        have ZQ := Lib.hid zq
        have HVO := Lib.hid hvo
        have hs9 := hc9.size
        simp only [World.size_alloc] at hs9
        clear hr9 hm9 hc9 zq zH hvo l1 l2 l3
        go_region_law (first
          | (refine step_appi (w := w9.drew.alloc (.cells #[.int .i64 n] 3)) (by rfl) _ _ rfl (N := 0) (v := vo) (l := h) (m := [n]) (by rfl) ((HR9.out.below (Below.refl _ _).drew).below ((Below.refl _ _).alloc (Nat.le_refl _) _)) (by rfl) (IRow.one w9.drew n) (Nat.zero_le _) (by simp; omega) ?_; intro v20 w20 hr20 ho20; obtain ⟨a20, p20, hv20, _, _⟩ := hr20.form; rw [List.length_append, List.length_singleton] at hv20; subst hv20; have hz20 := vars_box ho20 ZQ.out HS.out.n2; have e0 : w20.cell? ⟨q, 0, none⟩ = some vo := (by simp [World.cell?, hz20]); have e1 : (∀ j, w20.frozen? ⟨q, j, none⟩ = false) := (fun j => by simp [World.frozen?, hz20]); have R20 := Lib.hid hr20; have O20 := Lib.hid ho20; have Z20 := Lib.hid hz20; clear hr20 ho20 hz20))
        all_goals go_wp2
        all_goals
          refine bodyPost_ret (v := .tuple #[]) (by simp [results, Tryd.results40, go_sem]) rfl ?_
          rw [hv.out]
          exact vars_next HS.out HFK.out HN.out HM9.out HC9.out O20.out R20.out Z20.out
    | con c l =>
      obtain ⟨ao, cap, rfl, hle, hmx, _, _, hkl⟩ := ht.con
      have HS := Lib.hid hs
      have HKL := Lib.hid hkl
      have HB1 := Lib.hid (hb1 (.cells #[.int .i64 1, .int .i64 0, .string c, .slice ao l.length cap] 25))
      have hv : Hid (Ty.vrs (.con c l) h = Ty.vrss l h) := by show _ = _; rw [Ty.vrs]
      have hkz : Hid (Ty.szs l ≤ k) := by rw [Ty.sz] at hk; show _ ≤ _; omega
      have hlz : Hid (h.length + Ty.szs l ≤ 100000) := by rw [Ty.sz] at hln; show _ ≤ _; omega
      unfold maxLen at hmx
      clear hs hkl ht hb1 hk hln
      go_enter Tryd.func40, Tryd.ntmps40
      go_wp2
      obtain ⟨W, hW⟩ : ∃ W, W = w.alloc (.cells #[.int .i64 1, .int .i64 0, .string c, .slice ao l.length cap] 25) := ⟨_, rfl⟩
      rw [← hW] at HB1 ⊢
      clear hW
      have hsW := HB1.out.size
      have HL : Hid (VarsLoop b q W vo l h l.length (.int .i64 0) W) := ⟨0, h, vo, rfl, by omega, HS.out.below HB1.out, Nat.le_refl _, rfl, .refl _ _ _ _⟩
      go_loopg [31] l.length (fun gk s31 wr => VarsLoop b q W vo l h gk s31 wr)
      case atStart => exact HL.out
      case round =>
        clear HL
        obtain ⟨i, hi, vi, rfl, hik, hsi, hln, hvs, hst⟩ := hrel
        have HSI := Lib.hid hsi
        have HVS := Lib.hid hvs
        have HST := Lib.hid hst
        have HLN := Lib.hid hln
        have hrs := hst.1.size
        clear hsi hvs hst hln
        have g0 : (0 : Int) ≤ (i : Int) := by omega
        by_cases hlt : i < l.length
        · have g1 : (i : Int) < (l.length : Int) := by omega
          obtain ⟨tk, htk⟩ : ∃ u, l[i]? = some u := ⟨_, List.getElem?_eq_getElem hlt⟩
          obtain ⟨bb, oo, rfl, hbb⟩ := HKL.out.addr htk
          obtain ⟨_, ak, ck, p0, p1, p2, p3, hvk⟩ := HKL.out.cells htk
          rw [Nat.zero_add] at p0 p1 p2 p3
          have hvW : VStep b q w vo wr vi := (VStep.made vo HB1.out).trans HST.out
          have hnb := v_not hbb
          replace p0 := (hvW.1.cell (p := ⟨bb, oo + i * 4, none⟩) hbb.1 hnb).trans p0
          replace p1 := (hvW.1.cell (p := ⟨bb, oo + i * 4 + 1, none⟩) hbb.1 hnb).trans p1
          replace p2 := (hvW.1.cell (p := ⟨bb, oo + i * 4 + 2, none⟩) hbb.1 hnb).trans p2
          replace p3 := (hvW.1.cell (p := ⟨bb, oo + i * 4 + 3, none⟩) hbb.1 hnb).trans p3
          have hba : Below wr.heap.size wr (wr.alloc (.cells #[.int .i64 tk.op, .int .i64 tk.num, .string tk.text, .slice ak tk.kids.length ck] 25)) := (Below.refl _ _).alloc (Nat.le_refl _) _
          have hdz : Ty.szs (l.drop i) = tk.sz + Ty.szs (l.drop (i + 1)) := by
            rw [List.drop_eq_getElem_cons hlt, show l[i] = tk from Option.some.inj ((List.getElem?_eq_getElem hlt).symm.trans htk), Ty.szs]
          have hdv : Ty.vrss (l.drop i) hi = Ty.vrss (l.drop (i + 1)) (Ty.vrs tk hi) := by
            rw [List.drop_eq_getElem_cons hlt, show l[i] = tk from Option.some.inj ((List.getElem?_eq_getElem hlt).symm.trans htk), Ty.vrss]
          have hkt : tk.sz ≤ k := Nat.le_trans (Ty.szs_mem (List.mem_of_getElem? htk)) hkz.out
          have hlt2 : hi.length + tk.sz ≤ 100000 := by have := HLN.out; have := hlz.out; omega
          have hvl := Ty.vrs_len tk.sz tk hi (Nat.le_refl _)
          have HCALL := Lib.hid (ih tk _ (wr.alloc (.cells #[.int .i64 tk.op, .int .i64 tk.num, .string tk.text, .slice ak tk.kids.length ck] 25)) hi vi hkt ((hvk.vstep hvW).vstep (.made vi hba)) (HSI.out.below hba) hlt2)
          have HDZ := Lib.hid hdz
          have HDV := Lib.hid hdv
          have HVL := Lib.hid hvl
          have HBA := Lib.hid hba
          clear hvk htk hvW hnb hba hdz hdv hkt hlt2 hvl
          unfold tval VarsEnd at HCALL
          generalize Ty.vrs tk hi = h9 at HCALL HDV HVL
          go_wp2_with (go_at_call 40; refine HCALL.out.mono ?_; clear HCALL; rintro e w9 ⟨v9, rfl, hs9, hst9⟩; have HS9 := Lib.hid hs9; have HST9 := Lib.hid hst9; clear hs9 hst9)
          go_roundg (gk - 1)
          case measure => omega
          case rel => exact ⟨i + 1, h9, v9, by go_num, by omega, HS9.out, by have := HVL.out; have := HLN.out; have := HDZ.out; omega, by rw [HVS.out, HDV.out], HST.out.trans ((VStep.made vi HBA.out).trans HST9.out)⟩
        · obtain rfl : i = l.length := by omega
          go_wp2
          refine bodyPost_ret (v := .tuple #[]) (by simp [results, Tryd.results40, go_sem]) rfl ?_
          rw [hv.out, HVS.out, List.drop_length, Ty.vrss]
          exact ⟨vi, rfl, HSI.out, (VStep.made vo HB1.out).trans HST.out⟩
def Ty.vars (t : Ty) : List Int := t.vrs []
set_option maxRecDepth 100000 in
theorem vars_any (t : Ty) (v : Value) (w : World) (P : Nat → Prop) (hsz : t.sz ≤ 100000) (ht : TyIs w P t v) (hP : ∀ b, P b → b < w.heap.size) :
    Calls Tryd.prog 26 #[v] w fun e w' => ∃ vo, e = .returned vo ∧ IRow w' w.heap.size vo t.vars ∧ Below w.heap.size w w' := by
  obtain ⟨ao, cap, rfl⟩ := ht.form
  have hmm := @run_makeMap Tryd.prog
  obtain ⟨W, hW⟩ : ∃ W, W = ((w.alloc (.cells #[.int .i64 t.op, .int .i64 t.num, .string t.text, .slice ao t.kids.length cap] 25)).alloc (.cells #[.slice none 0 0] 56)).alloc (.map #[] 0) := ⟨_, rfl⟩
  have hbW : Below w.heap.size w W := by rw [hW]; exact (((Below.refl _ _).alloc (Nat.le_refl _) _).alloc (by simp) _).alloc (by simp; omega) _
  have hsW : W.heap.size = w.heap.size + 3 := by rw [hW]; simp
  have hsn : Seen W (w.heap.size + 1 + 1) (w.heap.size + 1) [] (.slice none 0 0) := by
    refine ⟨⟨fun _ => none, ?_, fun k => by simp⟩, ?_, IRow.nil _ _, by omega, by simp [Value.ownBlock], by simp [Value.ownBlock]⟩
    · rw [hW]
      have := VMap.made (P := Tryd.prog) (K := 3) ((w.alloc (.cells #[.int .i64 t.op, .int .i64 t.num, .string t.text, .slice ao t.kids.length cap] 25)).alloc (.cells #[.slice none 0 0] 56))
      simp only [World.size_alloc] at this
      exact this
    · rw [hW]; exact (heap_alloc_old _ _ (by simp)).trans (heap_new2 w _ _)
  have htW : TyIs W (Vr W (w.heap.size + 1 + 1) (w.heap.size + 1) (.slice none 0 0)) t (tval t ao cap) := (ht.below hbW hP).mono fun b hb => ⟨by have := hP b hb; omega, by have := hP b hb; omega, by have := hP b hb; omega, by simp [Value.ownBlock]⟩
  have HV := Lib.hid (vars_walk t.sz t _ W [] _ (Nat.le_refl _) htW hsn (by simpa using hsz))
  have HBW := Lib.hid hbW
  have HSW := Lib.hid hsW
  have HW := Lib.hid hW
  clear ht hbW hsW hsn htW hW
  unfold tval VarsEnd at HV
  unfold tval
  go_enter Tryd.func26, Tryd.ntmps26
  go_wp2_with (go_at_call 40; rw [← HW.out]; refine HV.out.mono ?_; clear HV; rintro e w9 ⟨v9, rfl, hs9, hst9⟩; have z9 := hs9.box; have c9 : w9.cell? ⟨w.heap.size + 1, 0, none⟩ = some v9 := (by simp [World.cell?, z9]); obtain ⟨a9, p9, rfl, _, _⟩ := hs9.row.form; have HS9 := Lib.hid hs9; have HST9 := Lib.hid hst9; clear hs9 hst9 z9)
  go_ret
  refine ⟨_, rfl, ⟨HS9.out.row.1, fun k hk => ?_⟩, HBW.out.trans (HST9.out.1.below (by have := HSW.out; omega) (by simp [Value.ownBlock]; omega))⟩
  rcases HST9.out.2 with e | ⟨j, e, hj⟩
  · have hk' := e.symm.trans hk; simp [Value.ownBlock] at hk'
  · have hk' := e.symm.trans hk; simp only [Option.some.injEq] at hk'; have := HSW.out; omega
end Go.Proofs.YthchkekegkhanaaDoor
/- The letters of variables. -/
namespace Go.Proofs.YthchkekegkhanaaDoor
open Go.RowKit Go.Maps
set_option linter.unusedVariables false

/-- The name of the k-th variable (of the first 26). -/
def ltr (k : Nat) : ByteArray := ⟨#[39, UInt8.ofNat (97 + k)]⟩
def one (k : Nat) : ByteArray := ⟨#[UInt8.ofNat (97 + k)]⟩
theorem enc_letter (k : Nat) (hk : k < 26) (x : Int) (hx : x = 97 + (k : Int)) : Utf8.encode x = one k := by
  subst hx
  have hv : Utf8.valid (97 + (k : Int)) = true := by unfold Utf8.valid; simp; omega
  have hc : (97 + (k : Int)).toNat = 97 + k := by omega
  unfold Utf8.encode one
  simp only [hv, if_true, hc]
  rw [if_pos (by omega)]
theorem one_size (k : Nat) : (one k).size = 1 := rfl
theorem ltr_cat (k : Nat) : (⟨#[39]⟩ : ByteArray) ++ one k = ltr k := by
  unfold ltr one
  ext1
  simp
set_option maxRecDepth 100000 in
theorem run_rune_str (k : Nat) (hk : k < 26) (x : Int) (hx : x = 97 + (k : Int)) (w : World) : (convert 21 9 (.int .i32 x)).run Tryd.prog w = .ok (.string (one k)) w := by
  rw [run_convert_int_string w _ _ _ _ (by rfl) (by rfl), enc_letter k hk x hx]
set_option maxRecDepth 100000 in
theorem letter_any (k : Nat) (hk : k < 26) (w : World) : Calls Tryd.prog 41 #[.int .i64 k] w fun e w' => e = .returned (.string (ltr k)) ∧ Below w.heap.size w w' := by
  obtain ⟨x, hx⟩ : ∃ x : Int, x = 97 + (k : Int) := ⟨_, rfl⟩
  have hm : (k : Int).tmod 26 = k := by rw [Int.tmod_eq_emod_of_nonneg (by omega)]; omega
  have hm' : (k : Int) % 26 = k := by omega
  have hw : IntKind.i64.wrap (97 + (k : Int)) = x := by rw [hx]; exact IntWalk.i64_in _ (by omega)
  have hw2 : IntKind.i32.wrap x = x := by rw [hx]; unfold IntKind.wrap; simp [IntKind.bits, IntKind.signed]; omega
  have hge : ¬ (26 : Int) ≤ (k : Int) := by omega
  have hcv := fun w => run_rune_str k hk x hx w
  have hcat := ltr_cat k
  have hsz := one_size k
  have hov : ¬ 9223372036854775807 < 1 + (one k).size := by rw [hsz]; omega
  clear hx
  go_enter Tryd.func41, Tryd.ntmps41
  go_wp2
  refine bodyPost_ret (v := .string (ltr k)) (by simp [results, Tryd.results41, go_sem, hcat]) rfl ?_
  exact ⟨rfl, by first | exact Below.refl _ _ | exact (Below.refl _ _).drew⟩

theorem oner_str (k : Nat) (hk : k < 26) (x : Int) (hx : x = 97 + (k : Int)) (w : World) : (convert 93 9 (.slice (some ⟨w.heap.size, 0, none⟩) 1 1)).run Tryd.prog (w.alloc (.cells #[.int .u8 x] 5)) = .ok (.string (one k)) (w.alloc (.cells #[.int .u8 x] 5)) := by
  have h := run_convert_bytes_back (P := Tryd.prog) (w.alloc (.cells #[.int .u8 x] 5)) 93 9 5 ⟨w.heap.size, 0, none⟩ 1 [UInt8.ofNat (97 + k)] Tryd.underlying93 Tryd.underlying5 Tryd.underlying9 (fun j hj => by
    have e : j = 0 := by simpa using hj
    subst e
    have e2 : ((UInt8.ofNat (97 + k)).toNat : Int) = x := by rw [hx, UInt8.toNat_ofNat']; omega
    have e3 : (Addr.add ⟨w.heap.size, 0, none⟩ 0) = ⟨w.heap.size, 0, none⟩ := by simp [Addr.add]
    rw [e3, List.getElem_cons_zero, e2]
    simp)
  exact h
set_option maxRecDepth 100000 in
theorem refLetter_any (k : Nat) (hk : k < 26) (w : World) : Calls Tryd.prog 55 #[.int .i64 k] w fun e w' => e = .returned (.string (ltr k)) ∧ Below w.heap.size w w' := by
  obtain ⟨x, hx⟩ : ∃ x : Int, x = 97 + (k : Int) := ⟨_, rfl⟩
  have hm : (k : Int).tmod 26 = k := by rw [Int.tmod_eq_emod_of_nonneg (by omega)]; omega
  have hm' : (k : Int) % 26 = k := by omega
  have hd : (k : Int).tdiv 26 = 0 := by rw [Int.tdiv_eq_ediv_of_nonneg (by omega)]; omega
  have hd' : (k : Int) / 26 = 0 := by omega
  have hw : IntKind.i64.wrap (97 + (k : Int)) = x := by rw [hx]; exact IntWalk.i64_in _ (by omega)
  have hw2 : IntKind.u8.wrap x = x := by rw [hx]; unfold IntKind.wrap; simp [IntKind.bits, IntKind.signed]; omega
  have hcv := oner_str k hk x hx w
  have hcat := ltr_cat k
  have hsz := one_size k
  have hov : ¬ 9223372036854775807 < 1 + (one k).size := by rw [hsz]; omega
  clear hx
  go_enter Tryd.func55, Tryd.ntmps55
  go_wp2
  refine bodyPost_ret (v := .string (ltr k)) (by simp [results, Tryd.results55, go_sem]) rfl ?_
  exact ⟨rfl, (Below.refl _ _).alloc (Nat.le_refl _) _⟩
end Go.Proofs.YthchkekegkhanaaDoor
