/- The reference's Vars. -/
import Derived.Test.YthchkekegkhanaaDoorKdLetter
import Derived.Test.YthchkekegkhanaaDoorKdOwn
namespace Go.Proofs.YthchkekegkhanaaDoor
open Go.RowKit Go.Maps
set_option linter.unusedVariables false

theorem IRow.empty (w : World) : IRow (w.alloc (.cells #[] 3)) w.heap.size (.slice (some ⟨w.heap.size, 0, none⟩) 0 0) [] := by
  refine ⟨⟨rfl, .inr ⟨w.heap.size, 0, #[], rfl, Nat.zero_le _, heap_alloc_new w _, Nat.le_refl _, by unfold maxLen; omega, rfl, rfl⟩⟩, fun k hk => by simp only [Value.ownBlock, Option.some.injEq] at hk; omega⟩
/-- The i-th number of a row. -/
theorem IRow.at {w : World} {N : Nat} {ao : Option Addr} {n c : Nat} {l : List Int} (h : IRow w N (.slice ao n c) l) {i : Nat} {x : Int} (hx : l[i]? = some x) : ∃ g, ao = some ⟨g, 0, none⟩ ∧ g < w.heap.size ∧ w.cell? ⟨g, i, none⟩ = some (.int .i64 x) := by
  rcases h.1.shape with ⟨_, h0⟩ | ⟨g, cap, hv, h1, h2, h3⟩
  · have : l = [] := by simpa [ivals] using h0
    subst this; simp at hx
  · cases hv
    have hi : i < (ivals l).length := by rw [ivals_length]; exact (List.getElem?_eq_some_iff.1 hx).1
    refine ⟨g, rfl, h.1.lt rfl, ?_⟩
    rw [Row.cellAt h.1 i hi]
    simp [ivals, hx]
theorem IRow.lower {w : World} {N M : Nat} {v : Value} {l : List Int} (h : IRow w N v l) (hM : M ≤ N) : IRow w M v l := ⟨h.1, fun k hk => Nat.le_trans hM (h.2 k hk)⟩
theorem cell_one {w : World} {H : Nat} {a b c d : Value} {t : TypeId} (h : w.heap[H]? = some (.cells #[a, b, c, d] t (0, 0))) : w.cell? ⟨H, 1, none⟩ = some b := by simp [World.cell?, h]
section
variable {w wr : World} {x : Value} {h : List Int}
theorem rv_a (hb : Below w.heap.size w wr) (hr : IRow wr 0 x h) : Hid (Below w.heap.size w (wr.drew.alloc (.cells #[] 3))) ∧ Hid (IRow (wr.drew.alloc (.cells #[] 3)) w.heap.size (.slice (some ⟨wr.heap.size, 0, none⟩) 0 0) []) ∧ Hid (IRow (wr.drew.alloc (.cells #[] 3)) 0 x h) :=
  ⟨hb.drew.alloc hb.size _, (IRow.empty wr.drew).lower hb.size, (hr.below (Below.refl _ _).drew).below ((Below.refl _ _).alloc (Nat.le_refl _) _)⟩
theorem rv_b (n : Int) (hb : Below w.heap.size w wr) (hr : IRow wr 0 x h) : Hid (Below w.heap.size w ((wr.drew.alloc (.cells #[] 3)).alloc (.cells #[.int .i64 n] 3))) ∧ Hid (IRow ((wr.drew.alloc (.cells #[] 3)).alloc (.cells #[.int .i64 n] 3)) w.heap.size (.slice (some ⟨wr.heap.size, 0, none⟩) 0 0) []) ∧ Hid (IRow ((wr.drew.alloc (.cells #[] 3)).alloc (.cells #[.int .i64 n] 3)) 0 x h) ∧ Hid (IRow ((wr.drew.alloc (.cells #[] 3)).alloc (.cells #[.int .i64 n] 3)) w.heap.size (.slice (some ⟨wr.heap.size + 1, 0, none⟩) 1 1) [n]) := by
  obtain ⟨a, b, c⟩ := rv_a hb hr
  have hs := hb.size
  have e : (wr.drew.alloc (.cells #[] 3)).heap.size = wr.heap.size + 1 := by simp
  have y := IRow.one (wr.drew.alloc (.cells #[] 3)) n
  rw [e] at y
  exact ⟨a.out.alloc (by omega) _, b.out.below ((Below.refl _ _).alloc (Nat.le_refl _) _), c.out.below ((Below.refl _ _).alloc (Nat.le_refl _) _), y.lower (by omega)⟩
theorem rv_c (n : Int) (hb : Below w.heap.size w wr) (hr : IRow wr 0 x h) : Hid (Below w.heap.size w ((wr.drew.alloc (.cells #[.int .i64 n] 3)).alloc (.cells #[] 3))) ∧ Hid (IRow ((wr.drew.alloc (.cells #[.int .i64 n] 3)).alloc (.cells #[] 3)) w.heap.size (.slice (some ⟨wr.heap.size + 1, 0, none⟩) 0 0) []) ∧ Hid (IRow ((wr.drew.alloc (.cells #[.int .i64 n] 3)).alloc (.cells #[] 3)) 0 x h) ∧ Hid (IRow ((wr.drew.alloc (.cells #[.int .i64 n] 3)).alloc (.cells #[] 3)) w.heap.size (.slice (some ⟨wr.heap.size, 0, none⟩) 1 1) [n]) := by
  have hs := hb.size
  have e : (wr.drew.alloc (.cells #[.int .i64 n] 3)).heap.size = wr.heap.size + 1 := by simp
  have y := IRow.empty (wr.drew.alloc (.cells #[.int .i64 n] 3))
  rw [e] at y
  have b1 : ∀ (W : World) (o : Obj), Below W.heap.size W (W.alloc o) := fun W o => (Below.refl _ _).alloc (Nat.le_refl _) _
  exact ⟨(hb.drew.alloc hb.size _).alloc (by omega) _, y.lower (by omega), ((hr.below (Below.refl _ _).drew).below (b1 _ _)).below (b1 _ _), ((IRow.one wr.drew n).below (b1 _ _)).lower (by simpa using hs)⟩
theorem rv_a2 {W w20 : World} {v v20 : Value} {H : Nat} {A : Array Value} {t : TypeId} {l m : List Int} (hb : Below w.heap.size w W) (he : IRow W w.heap.size v l) (hz : W.heap[H]? = some (.cells A t (0, 0))) (hv : v.ownBlock ≠ some H) (hr : IRow w20 w.heap.size v20 m) (ho : OwnStep W v w20 v20) :
    Below w.heap.size w w20 ∧ IRow w20 w.heap.size v20 m ∧ w20.heap[H]? = some (.cells A t (0, 0)) :=
  ⟨hb.trans (ho.below hb.size he.2), hr, (ho.block (lt_of_block hz) hv).trans hz⟩
theorem rv_b2 {W w20 : World} {v v20 y : Value} {l m q : List Int} (hb : Below w.heap.size w W) (he : IRow W w.heap.size v l) (hy : IRow W w.heap.size y q) (hv : ∀ k, y.ownBlock = some k → v.ownBlock ≠ some k) (hr : IRow w20 w.heap.size v20 m) (ho : OwnStep W v w20 v20) :
    Below w.heap.size w w20 ∧ IRow w20 w.heap.size v20 m ∧ IRow w20 w.heap.size y q :=
  ⟨hb.trans (ho.below hb.size he.2), hr, hy.aside ho hv⟩
theorem rv_end {W w20 : World} {v v20 : Value} {l m : List Int} (hb : Below w.heap.size w W) (he : IRow W w.heap.size v l) (hr : IRow w20 w.heap.size v20 m) (ho : OwnStep W v w20 v20) : Below w.heap.size w w20 ∧ IRow w20 0 v20 m :=
  ⟨hb.trans (ho.below hb.size he.2), hr.lower (Nat.zero_le _)⟩
end
def RVarsLoop (n : Int) (W : World) (h : List Int) (gk : Nat) (s5 : Value) (wr : World) : Prop :=
  ∃ i : Nat, s5 = .int .i64 i ∧ i + gk = h.length ∧ n ∉ h.take i ∧ Below W.heap.size W wr
def RVarsKids (W : World) (l : List Ty) (h0 : List Int) (gk : Nat) (s6 s1 : Value) (wr : World) : Prop :=
  ∃ (i : Nat) (h : List Int), s6 = .int .i64 i ∧ i + gk = l.length ∧ IRow wr 0 s1 h ∧ h.length + Ty.szs (l.drop i) ≤ h0.length + Ty.szs l ∧ Ty.vrss l h0 = Ty.vrss (l.drop i) h ∧ Below W.heap.size W wr
set_option maxRecDepth 100000 in
set_option maxHeartbeats 1600000 in
theorem refVars_walk (k : Nat) : ∀ (t : Ty) (v x : Value) (w : World) (h : List Int) (P : Nat → Prop), t.sz ≤ k → TyIs w P t v → (∀ b, P b → b < w.heap.size) → IRow w 0 x h → h.length + t.sz ≤ 100000 →
    Calls Tryd.prog 27 #[v, x] w fun e w' => ∃ x', e = .returned x' ∧ IRow w' 0 x' (Ty.vrs t h) ∧ Below w.heap.size w w' := by
  induction k with
  | zero => intro t v x w h P hk; have := t.sz_pos; omega
  | succ k ih =>
    intro t v x w h P hk ht hP hr hln
    have hb1 := fun (o : Obj) => (Below.refl w.heap.size w).alloc (Nat.le_refl _) o
    cases t with
    | var n =>
      obtain ⟨ao, cap, rfl, hcap, hwn, _⟩ := ht.var
      unfold maxLen at hcap
      obtain ⟨aox, capx, rfl, hcx, hcm⟩ := hr.form
      unfold maxLen at hcm
      rw [Ty.sz] at hln
      have HR := Lib.hid hr
      clear ht hr hb1
      go_enter Tryd.func27, Tryd.ntmps27
      go_wp2
      obtain ⟨W, hW⟩ : ∃ W, W = w.alloc (.cells #[.int .i64 0, .int .i64 n, .string ⟨#[]⟩, .slice ao 0 cap] 40) := ⟨_, rfl⟩
      have hBW : Hid (Below w.heap.size w W) := by rw [hW]; exact (Below.refl _ _).alloc (Nat.le_refl _) _
      have hZW : Hid (W.heap[w.heap.size]? = some (.cells #[.int .i64 0, .int .i64 n, .string ⟨#[]⟩, .slice ao 0 cap] 40 (0, 0))) := by rw [hW]; exact heap_alloc_new w _
      rw [← hW]
      clear hW
      go_loopg [5] h.length (fun gk s5 wr => RVarsLoop n W h gk s5 wr)
      case atStart => exact ⟨0, rfl, by omega, by simp, Below.refl _ _⟩
      case round =>
        obtain ⟨i, rfl, hik, hni, hbi⟩ := hrel
        have hbw := hBW.out.size
        have hlw := lt_of_block hZW.out
        have zi := (hbi.block _ hlw).trans hZW.out
        obtain ⟨d0, d1, d2, d3, d4⟩ := hdr4_cells zi
        have HRI := Lib.hid ((HR.out.below hBW.out).below hbi)
        have HNI := Lib.hid hni
        have HBI := Lib.hid hbi
        have hB0 : Hid (Below w.heap.size w wr) := hBW.out.trans (hbi.mono hbw)
        have ZIA := zi
        clear zi hni hbi hlw
        have g0 : (0 : Int) ≤ (i : Int) := by omega
        by_cases hlt : i < h.length
        · have g1 : (i : Int) < (h.length : Int) := by omega
          obtain ⟨y, hy⟩ : ∃ y, h[i]? = some y := ⟨_, List.getElem?_eq_getElem hlt⟩
          obtain ⟨g, rfl, hg, hc⟩ := HRI.out.at hy
          have HY := Lib.hid hy
          clear hy hg
          by_cases hyn : y = n
          · subst hyn
            have hv : Hid (Ty.vrs (.var y) h = h) := by show _ = _; rw [Ty.vrs, if_pos (List.mem_of_getElem? HY.out)]
            go_wp2
            go_quiet (fail)
            go_wp2
            refine bodyPost_ret (v := .slice (some ⟨g, 0, none⟩) h.length capx) (by simp [results, Tryd.results27, go_sem]) rfl ?_
            rw [hv.out]
            exact ⟨_, rfl, HRI.out.below (below_drewN (Below.refl _ _) _), below_drewN hB0.out _⟩
          · have hyb : (y == n) = false := by simpa using hyn
            have HYN := Lib.hid hyn
            clear hyn
            go_wp2
            go_quiet (fail)
            go_wp2
            go_roundg (gk - 1)
            case measure => omega
            case rel =>
              refine ⟨i + 1, by go_num, by omega, fun hm => ?_, below_drewN HBI.out _⟩
              rw [take_snoc HY.out, List.mem_append, List.mem_singleton] at hm
              rcases hm with hm | hm
              · exact HNI.out hm
              · exact HYN.out hm.symm
        · obtain rfl : i = h.length := by omega
          rw [List.take_length] at HNI
          have hv : Hid (Ty.vrs (.var n) h = h ++ [n]) := by show _ = _; rw [Ty.vrs, if_neg HNI.out]
          go_wp2
          obtain ⟨BA, EA, XA⟩ := rv_a hB0.out HRI.out
          obtain ⟨BB, EB, XB, YB⟩ := rv_b n hB0.out HRI.out
          obtain ⟨BC, EC, XC, YC⟩ := rv_c n hB0.out HRI.out
          have ZI := Lib.hid ZIA
          have y0 : wr.drew.cell? ⟨w.heap.size, 1, none⟩ = some (.int .i64 n) := cell_one (show wr.drew.heap[w.heap.size]? = _ from ZIA)
          have y1 : ∀ o, (wr.alloc o).cell? ⟨w.heap.size, 1, none⟩ = some (.int .i64 n) := fun o => cell_one ((heap_alloc_old wr o (lt_of_block ZIA)).trans ZIA)
          go_region_law (first
            | (refine step_appi (w := wr.drew.alloc (.cells #[] 3)) (by rfl) _ _ rfl (N := w.heap.size) (v := .slice (some ⟨wr.heap.size, 0, none⟩) 0 0) (vx := .slice aox h.length capx) (l := []) (m := h) (by rfl) EA.out (by rfl) XA.out (BA.out.size) (by simp; omega) ?_; intro v20 w20 hr20 ho20; obtain ⟨b20, r20, z20⟩ := rv_a2 BA.out EA.out ((heap_alloc_old wr.drew _ (lt_of_block ZI.out)).trans ZI.out) (by have := lt_of_block ZI.out; simp [Value.ownBlock]; omega) hr20 ho20; obtain ⟨a20, p20, hv20, _, _⟩ := r20.form; subst hv20; have f0 := cell_one z20; have R20 := Lib.hid r20; have B20 := Lib.hid b20; clear hr20 ho20 r20 b20 z20)
            | (refine step_appi (w := (wr.drew.alloc (.cells #[] 3)).alloc (.cells #[.int .i64 n] 3)) (by rfl) _ _ rfl (N := w.heap.size) (v := .slice (some ⟨wr.heap.size, 0, none⟩) 0 0) (vx := .slice aox h.length capx) (l := []) (m := h) (by rfl) EB.out (by rfl) XB.out (BB.out.size) (by simp; omega) ?_; intro v20 w20 hr20 ho20; obtain ⟨b20, r20, y20⟩ := rv_b2 BB.out EB.out YB.out (fun k hk => by simp [Value.ownBlock] at hk ⊢; omega) hr20 ho20; obtain ⟨a20, p20, hv20, _, _⟩ := r20.form; subst hv20; have R20 := Lib.hid r20; have B20 := Lib.hid b20; have Y20 := Lib.hid y20; clear hr20 ho20 r20 b20 y20)
            | (refine step_appi (w := (wr.drew.alloc (.cells #[.int .i64 n] 3)).alloc (.cells #[] 3)) (by rfl) _ _ rfl (N := w.heap.size) (v := .slice (some ⟨wr.heap.size + 1, 0, none⟩) 0 0) (vx := .slice aox h.length capx) (l := []) (m := h) (by rfl) EC.out (by rfl) XC.out (BC.out.size) (by simp; omega) ?_; intro v20 w20 hr20 ho20; obtain ⟨b20, r20, y20⟩ := rv_b2 BC.out EC.out YC.out (fun k hk => by simp [Value.ownBlock] at hk ⊢; omega) hr20 ho20; obtain ⟨a20, p20, hv20, _, _⟩ := r20.form; subst hv20; have R20 := Lib.hid r20; have B20 := Lib.hid b20; have Y20 := Lib.hid y20; clear hr20 ho20 r20 b20 y20)
            | (refine step_appi (w := w20.alloc (.cells #[.int .i64 n] 3)) (by rfl) _ _ rfl (N := w.heap.size) (v := .slice a20 h.length p20) (vx := .slice (some ⟨w20.heap.size, 0, none⟩) 1 1) (l := h) (m := [n]) (by rfl) (R20.out.below ((Below.refl _ _).alloc (Nat.le_refl _) _)) (by rfl) (IRow.one w20 n) (by have := B20.out.size; simp; omega) (by simp; omega) ?_; intro v30 w30 hr30 ho30; have HF := Lib.hid (rv_end (B20.out.alloc B20.out.size _) (R20.out.below ((Below.refl _ _).alloc (Nat.le_refl _) _)) hr30 ho30); clear hr30 ho30)
            | (refine step_appi (w := w20) (by rfl) _ _ rfl (N := w.heap.size) (v := .slice a20 h.length p20) (vx := .slice (some ⟨wr.heap.size + 1, 0, none⟩) 1 1) (l := h) (m := [n]) (by rfl) R20.out (by rfl) Y20.out B20.out.size (by simp; omega) ?_; intro v30 w30 hr30 ho30; have HF := Lib.hid (rv_end B20.out R20.out hr30 ho30); clear hr30 ho30)
            | (refine step_appi (w := w20) (by rfl) _ _ rfl (N := w.heap.size) (v := .slice a20 h.length p20) (vx := .slice (some ⟨wr.heap.size, 0, none⟩) 1 1) (l := h) (m := [n]) (by rfl) R20.out (by rfl) Y20.out B20.out.size (by simp; omega) ?_; intro v30 w30 hr30 ho30; have HF := Lib.hid (rv_end B20.out R20.out hr30 ho30); clear hr30 ho30)
            | fail)
          all_goals
            go_wp2
            refine bodyPost_ret (v := v30) (by simp [results, Tryd.results27, go_sem]) rfl ?_
            rw [hv.out]
            exact ⟨_, rfl, HF.out.2, HF.out.1⟩
    | con c l =>
      obtain ⟨ao, cap, rfl, hle, hmx, _, _, hkl⟩ := ht.con
      obtain ⟨aox, capx, rfl, hcx, hcm⟩ := hr.form
      unfold maxLen at hcm
      have HR := Lib.hid hr
      have HKL := Lib.hid hkl
      have HP := Lib.hid hP
      have hv : Hid (Ty.vrs (.con c l) h = Ty.vrss l h) := by show _ = _; rw [Ty.vrs]
      have hkz : Hid (Ty.szs l ≤ k) := by rw [Ty.sz] at hk; show _ ≤ _; omega
      have hlz : Hid (h.length + Ty.szs l ≤ 100000) := by rw [Ty.sz] at hln; show _ ≤ _; omega
      unfold maxLen at hmx
      clear hr hkl ht hb1 hk hln hP
      go_enter Tryd.func27, Tryd.ntmps27
      go_wp2
      obtain ⟨W, hW⟩ : ∃ W, W = w.alloc (.cells #[.int .i64 1, .int .i64 0, .string c, .slice ao l.length cap] 40) := ⟨_, rfl⟩
      have hBW : Hid (Below w.heap.size w W) := by rw [hW]; exact (Below.refl _ _).alloc (Nat.le_refl _) _
      have hZW : Hid (W.heap[w.heap.size]? = some (.cells #[.int .i64 1, .int .i64 0, .string c, .slice ao l.length cap] 40 (0, 0))) := by rw [hW]; exact heap_alloc_new w _
      rw [← hW]
      clear hW
      have HL : Hid (RVarsKids W l h l.length (.int .i64 0) (.slice aox h.length capx) W) := ⟨0, h, rfl, by omega, HR.out.below hBW.out, Nat.le_refl _, rfl, Below.refl _ _⟩
      go_loopg [6, 1] l.length (fun gk s6 s1 wr => RVarsKids W l h gk s6 s1 wr)
      case atStart => exact HL.out
      case round =>
        clear HL
        obtain ⟨i, hi, rfl, hik, hri, hln, hvs, hbi⟩ := hrel
        obtain ⟨aoi, capi, rfl, hci, hcmi⟩ := hri.form
        unfold maxLen at hcmi
        have hbw := hBW.out.size
        have hlw := lt_of_block hZW.out
        have zi := (hbi.block _ hlw).trans hZW.out
        obtain ⟨d0, d1, d2, d3, d4⟩ := hdr4_cells zi
        have HRI := Lib.hid hri
        have HVS := Lib.hid hvs
        have HBI := Lib.hid hbi
        have HLN := Lib.hid hln
        have hB0 : Hid (Below w.heap.size w wr) := hBW.out.trans (hbi.mono hbw)
        have hbis := hbi.size
        clear zi hlw hri hvs hbi hln
        have g0 : (0 : Int) ≤ (i : Int) := by omega
        by_cases hlt : i < l.length
        · have g1 : (i : Int) < (l.length : Int) := by omega
          obtain ⟨tk, htk⟩ : ∃ u, l[i]? = some u := ⟨_, List.getElem?_eq_getElem hlt⟩
          obtain ⟨bb, oo, rfl, hbb⟩ := HKL.out.addr htk
          obtain ⟨_, ak, ck, p0, p1, p2, p3, hvk⟩ := HKL.out.cells htk
          rw [Nat.zero_add] at p0 p1 p2 p3
          have hbn := HP.out _ hbb
          replace p0 := (hB0.out.cell (p := ⟨bb, oo + i * 4, none⟩) hbn).trans p0
          replace p1 := (hB0.out.cell (p := ⟨bb, oo + i * 4 + 1, none⟩) hbn).trans p1
          replace p2 := (hB0.out.cell (p := ⟨bb, oo + i * 4 + 2, none⟩) hbn).trans p2
          replace p3 := (hB0.out.cell (p := ⟨bb, oo + i * 4 + 3, none⟩) hbn).trans p3
          have hdz : Ty.szs (l.drop i) = tk.sz + Ty.szs (l.drop (i + 1)) := by
            rw [List.drop_eq_getElem_cons hlt, show l[i] = tk from Option.some.inj ((List.getElem?_eq_getElem hlt).symm.trans htk), Ty.szs]
          have hdv : Ty.vrss (l.drop i) hi = Ty.vrss (l.drop (i + 1)) (Ty.vrs tk hi) := by
            rw [List.drop_eq_getElem_cons hlt, show l[i] = tk from Option.some.inj ((List.getElem?_eq_getElem hlt).symm.trans htk), Ty.vrss]
          have hkt : tk.sz ≤ k := Nat.le_trans (Ty.szs_mem (List.mem_of_getElem? htk)) hkz.out
          have hlt2 : hi.length + tk.sz ≤ 100000 := by have := HLN.out; have := hlz.out; omega
          have hvl := Ty.vrs_len tk.sz tk hi (Nat.le_refl _)
          have HCALL := Lib.hid (ih tk _ _ wr hi P hkt (hvk.below hB0.out HP.out) (fun b hb => Nat.lt_of_lt_of_le (HP.out b hb) hB0.out.size) HRI.out hlt2)
          have HDZ := Lib.hid hdz
          have HDV := Lib.hid hdv
          have HVL := Lib.hid hvl
          clear hvk htk hbn hbb hdz hdv hkt hlt2 hvl
          unfold tval at HCALL
          generalize Ty.vrs tk hi = h9 at HCALL HDV HVL
          go_wp2_with (go_at_call 27; refine HCALL.out.mono ?_; clear HCALL; rintro e w9 ⟨v9, rfl, hr9, hb9⟩; have HR9 := Lib.hid hr9; have HB9 := Lib.hid hb9; clear hr9 hb9)
          go_roundg (gk - 1)
          case measure => omega
          case rel => exact ⟨i + 1, h9, by go_num, by omega, HR9.out, by have := HVL.out; have := HLN.out; have := HDZ.out; omega, by rw [HVS.out, HDV.out], HBI.out.trans (HB9.out.mono hbis)⟩
        · obtain rfl : i = l.length := by omega
          go_wp2
          refine bodyPost_ret (v := .slice aoi hi.length capi) (by simp [results, Tryd.results27, go_sem]) rfl ?_
          rw [hv.out, HVS.out, List.drop_length, Ty.vrss]
          exact ⟨_, rfl, HRI.out, hB0.out⟩
end Go.Proofs.YthchkekegkhanaaDoor
/- The law's tame. -/
namespace Go.Proofs.YthchkekegkhanaaDoor
open Go.RowKit Go.Maps
set_option linter.unusedVariables false

/-- What the law makes of any type at all: at most 60 parts, the variables 1 to 9. -/
def tm (t : VT) : Ty := (t.tameT 12 60).1
theorem tm_sz (t : VT) : (tm t).sz ≤ 60 := by
  have h := VT.tameT_left t 12 60 (by omega)
  unfold tm
  omega
set_option maxRecDepth 100000 in
theorem tame_any {t : VT} {v : Value} {w : World} {P : Nat → Prop} (ht : ValIs w P t v) (hP : ∀ b, P b → b < w.heap.size) :
    Calls Tryd.prog 16 #[v] w (NewTy w (tm t)) := by
  have hform : ∃ x0 x1 x2 x3, v = .agg #[.int .i64 x0, .int .i64 x1, .string x2, x3] := by
    cases t with
    | node ka na sa la =>
      unfold ValIs at ht
      obtain ⟨ao, cap, rfl, _⟩ := ht
      exact ⟨_, _, _, _, rfl⟩
  obtain ⟨x0, x1, x2, x3, rfl⟩ := hform
  have hb1 : Below w.heap.size w ((w.alloc (.cells #[.int .i64 x0, .int .i64 x1, .string x2, x3] 40)).alloc (.cells #[.int .i64 0, .int .i64 0, .string ⟨#[]⟩, .slice none 0 0] 40)) := ((Below.refl _ _).alloc (Nat.le_refl _) _).alloc (by simp) _
  have HC := Lib.hid (tame_walk _ t _ _ P 12 60 (Nat.le_refl _) (ht.below hb1 hP) (fun b hb => by have := hP b hb; simp; omega) (by omega) (by omega) (by omega) (by omega))
  have HB1 := Lib.hid hb1
  clear ht hb1
  unfold TameEnd at HC
  unfold tm NewTy
  generalize t.tameT 12 60 = r at HC ⊢
  go_enter Tryd.func16, Tryd.ntmps16
  go_wp2_with (go_at_call 36; refine HC.out.mono ?_; clear HC; rintro e w5 ⟨ao5, cap5, rfl, hv5, hb5⟩; have z5 := (hb5.block (w.heap.size + 1) (by simp)).trans (heap_new2 w _ _); have Z5 := Lib.hid z5; have V5 := Lib.hid hv5; have B5 := Lib.hid hb5; obtain ⟨c0, c1, c2, c3, c4⟩ := hdr4_cells z5; obtain ⟨⟨e0, e1, e2, e3⟩, e4⟩ := later_box z5 (.cells #[.int .i64 r.1.op, .int .i64 r.1.num, .string r.1.text, .slice ao5 r.1.kids.length cap5] 40); clear z5 hv5 hb5)
  have hs5 : w.heap.size + 2 ≤ w5.heap.size := by have := B5.out.size; simpa using this
  have hba : Below w.heap.size w (w5.alloc (.cells #[.int .i64 r.1.op, .int .i64 r.1.num, .string r.1.text, .slice ao5 r.1.kids.length cap5] 40)) := (HB1.out.trans (B5.out.mono (by simp; omega))).alloc (by omega) _
  obtain ⟨z1, z2⟩ := four_ret (y0 := .int .i64 r.1.op) (y1 := .int .i64 r.1.num) (y2 := .string r.1.text) (y3 := .slice ao5 r.1.kids.length cap5) ((heap_alloc_old w5 (.cells #[.int .i64 r.1.op, .int .i64 r.1.num, .string r.1.text, .slice ao5 r.1.kids.length cap5] 40) (lt_of_block Z5.out)).trans Z5.out)
  have hv : TyIs (w5.alloc (.cells #[.int .i64 r.1.op, .int .i64 r.1.num, .string r.1.text, .slice ao5 r.1.kids.length cap5] 40)) (fun b => w.heap.size + 2 ≤ b ∧ b < w5.heap.size) r.1 (tval r.1 ao5 cap5) := (V5.out.below ((Below.refl _ _).alloc (Nat.le_refl _) _) (fun b hb => hb.2)).mono (fun b hb => ⟨by have := hb.1; simpa using this, hb.2⟩)
  have hsz : w5.heap.size ≤ (w5.alloc (.cells #[.int .i64 r.1.op, .int .i64 r.1.num, .string r.1.text, .slice ao5 r.1.kids.length cap5] 40)).heap.size := by simp
  generalize w5.alloc _ = w6 at z1 z2 hba hv hsz ⊢
  generalize ((((World.setCell _ _ _).setCell _ _).setCell _ _).setCell _ _) = wz at z1 z2 ⊢
  obtain ⟨y0, y1, y2, y3, _⟩ := hdr4_cells z1
  refine bodyPost_ret (v := .agg #[.int .i64 r.1.op, .int .i64 r.1.num, .string r.1.text, .slice ao5 r.1.kids.length cap5]) (by simp [results, Tryd.results16, go_sem, y0, y1, y2, y3]) rfl ?_
  refine ⟨ao5, cap5, rfl, (hv.chg z2 (fun b hb => ⟨by omega, by have := hb.1; simp; omega⟩)).mono (fun b hb => ⟨by have := hb.1; omega, by have := z2.size; omega⟩), hba.trans (z2.below (B := w.heap.size) (by have := hba.size; omega) (by simp))⟩
end Go.Proofs.YthchkekegkhanaaDoor
