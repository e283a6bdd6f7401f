/- The program's Swap. -/
import Derived.Test.YthchkekegkhanaaDoorKdRSwap2
import Derived.Test.YthchkekegkhanaaDoorShelf
namespace Go.Proofs.YthchkekegkhanaaDoor
open Go.RowKit Go.Maps
set_option linter.unusedVariables false

theorem pick_idx (n : Int) : ∀ (h : List Int) (ts : List Ty) (i : Nat), (∃ j : Nat, Lib.idxFrom h n i = ((i + j : Nat) : Int) ∧ pick n h ts = ts[j]?) ∨ (Lib.idxFrom h n i = -1 ∧ pick n h ts = none)
  | [], ts, i => .inr ⟨by simp [Lib.idxFrom], by cases ts <;> simp [pick]⟩
  | a :: h, ts, i => by
    by_cases e : a = n
    · refine .inl ⟨0, by simp [Lib.idxFrom, e], ?_⟩
      cases ts with
      | nil => simp [pick]
      | cons t ts => simp [pick, e]
    · have hi : Lib.idxFrom (a :: h) n i = Lib.idxFrom h n (i + 1) := by simp [Lib.idxFrom, e]
      rw [hi]
      cases ts with
      | nil =>
        rcases pick_idx n h [] (i + 1) with ⟨j, h1, h2⟩ | ⟨h1, h2⟩
        · exact .inl ⟨j + 1, by rw [h1]; congr 1; omega, by simp [pick]⟩
        · exact .inr ⟨h1, by simp [pick]⟩
      | cons t ts =>
        rcases pick_idx n h ts (i + 1) with ⟨j, h1, h2⟩ | ⟨h1, h2⟩
        · exact .inl ⟨j + 1, by rw [h1]; congr 1; omega, by simp [pick, e, h2]⟩
        · exact .inr ⟨h1, by simp [pick, e, h2]⟩
set_option maxRecDepth 100000 in
theorem index_any (n : Int) {h : List Int} {w : World} {xv : Value} (hr : IntsAt w xv h) (hln : h.length ≤ 100000) : Calls Tryd.prog 44 #[xv, .int .i64 n] w fun e w' => e = .returned (.int .i64 (Lib.idxFrom h n 0)) ∧ w' = w := by
  obtain ⟨ao, c, rfl, _, _⟩ := hr.form
  cases h with
  | nil => exact Tryd.slices_Index_int_empty ao c n w
  | cons a h =>
    obtain ⟨g, o, rfl, _, _⟩ := hr.at (i := 0) (x := a) rfl
    have hi := Tryd.slices_Index_int g o (a :: h).length c (a :: h) n w (Nat.le_refl _) (by omega) (fun j hj => by
      obtain ⟨g2, o2, hg, _, hc⟩ := hr.at (i := j) (x := (a :: h).getD j 0) (by rw [List.getElem?_eq_getElem hj]; simp [List.getD_eq_getElem?_getD, List.getElem?_eq_getElem hj])
      cases hg
      exact hc)
    rw [List.take_length] at hi
    exact hi
set_option maxRecDepth 100000 in
set_option maxHeartbeats 1600000 in
theorem swap_var (n : Int) {h : List Int} {ts : List Ty} {v xv : Value} {ao2 : Option Addr} {cap2 : Nat} {w : World} {P : Nat → Prop} (ht : TyIs w P (.var n) v) (hP : ∀ b, P b → b < w.heap.size) (hr : IntsAt w xv h) (hts : TysAt w P ts ao2 0) (hc1 : ts.length ≤ cap2) (hc2 : cap2 ≤ maxLen) (hln : h.length ≤ 100000) (hsz : ∀ u ∈ ts, u.sz ≤ 100000) :
    Calls Tryd.prog 30 #[v, xv, .slice ao2 ts.length cap2] w (NewTy w (swS h ts n)) := by
  obtain ⟨ao, cap, rfl, hcap, hwn, hao⟩ := ht.var
  unfold maxLen at hcap hc2
  have HR := Lib.hid hr
  have HTS := Lib.hid hts
  have HP := Lib.hid hP
  have HWN := Lib.hid hwn
  have HAO := Lib.hid hao
  obtain ⟨W, hW⟩ : ∃ W, W = (w.alloc (.cells #[.int .i64 0, .int .i64 n, .string ⟨#[]⟩, .slice ao 0 cap] 25)).alloc (.cells #[.int .i64 0, .int .i64 0, .string ⟨#[]⟩, .slice none 0 0] 25) := ⟨_, rfl⟩
  have hBW : Hid (Below w.heap.size w W) := by rw [hW]; exact ((Below.refl _ _).alloc (Nat.le_refl _) _).alloc (by simp) _
  have hZW : W.heap[w.heap.size]? = some (.cells #[.int .i64 0, .int .i64 n, .string ⟨#[]⟩, .slice ao 0 cap] 25 (0, 0)) := by rw [hW]; exact (heap_alloc_old _ _ (by simp)).trans (heap_alloc_new w _)
  have hZ2 : W.heap[w.heap.size + 1]? = some (.cells #[.int .i64 0, .int .i64 0, .string ⟨#[]⟩, .slice none 0 0] 25 (0, 0)) := by rw [hW]; exact heap_new2 w _ _
  have hsW : Hid (W.heap.size = w.heap.size + 2) := by show _ = _; rw [hW]; simp
  have HI := Lib.hid (index_any n (hr.below hBW.out) hln)
  have HW := Lib.hid hW
  have Z2 := Lib.hid hZ2
  obtain ⟨d0, d1, d2, d3, d4⟩ := hdr4_cells hZW
  obtain ⟨e0, e1, e2, e3, e4⟩ := hdr4_cells hZ2
  clear ht hr hts hP hW hZW hZ2
  rcases pick_idx n h ts 0 with ⟨j, h1, h2⟩ | ⟨h1, h2⟩
  · rw [Nat.zero_add] at h1
    rw [h1] at HI
    by_cases hlt : j < ts.length
    · obtain ⟨tk, htk⟩ : ∃ u, ts[j]? = some u := ⟨_, List.getElem?_eq_getElem hlt⟩
      have hres : Hid (swS h ts n = tk) := by show _ = _; unfold swS; rw [h2, htk]; rfl
      have g0 : (0 : Int) ≤ (j : Int) := by omega
      have g1 : (j : Int) < (ts.length : Int) := by omega
      obtain ⟨bb, oo, rfl, hbb⟩ := HTS.out.addr htk
      obtain ⟨_, ak, ck, p0, p1, p2, p3, hvk⟩ := HTS.out.cells htk
      rw [Nat.zero_add] at p0 p1 p2 p3
      have hbn := HP.out _ hbb
      replace p0 := (hBW.out.cell (p := ⟨bb, oo + j * 4, none⟩) hbn).trans p0
      replace p1 := (hBW.out.cell (p := ⟨bb, oo + j * 4 + 1, none⟩) hbn).trans p1
      replace p2 := (hBW.out.cell (p := ⟨bb, oo + j * 4 + 2, none⟩) hbn).trans p2
      replace p3 := (hBW.out.cell (p := ⟨bb, oo + j * 4 + 3, none⟩) hbn).trans p3
      have HO := Lib.hid (own_walk _ tk _ W P (Nat.le_refl _) (hsz tk (List.mem_of_getElem? htk)) (hvk.below hBW.out HP.out) (fun b hb => Nat.lt_of_lt_of_le (HP.out b hb) hBW.out.size))
      clear hvk htk hbn hbb h1 h2 hsz
      unfold tval NewTy at HO
      go_enter Tryd.func30, Tryd.ntmps30
      go_wp2_with (first | (go_at_call 44; rw [← HW.out]; refine HI.out.mono ?_; rintro e w5 ⟨rfl, rfl⟩) | (go_at_call 35; refine HO.out.mono ?_; rintro e w7 ⟨ao7, cap7, rfl, hv7, hb7⟩; have z7 := (hb7.block (w.heap.size + 1) (lt_of_block Z2.out)).trans Z2.out; have Z7 := Lib.hid z7; have V7 := Lib.hid hv7; have B7 := Lib.hid hb7; obtain ⟨c0, c1, c2, c3, c4⟩ := hdr4_cells z7; clear z7 hv7 hb7))
      obtain ⟨z1, z2⟩ := four_ret (y0 := .int .i64 tk.op) (y1 := .int .i64 tk.num) (y2 := .string tk.text) (y3 := .slice ao7 tk.kids.length cap7) Z7.out
      generalize ((((World.setCell _ _ _).setCell _ _).setCell _ _).setCell _ _) = wz at z1 z2 ⊢
      obtain ⟨q0, q1, q2, q3, _⟩ := hdr4_cells z1
      refine bodyPost_ret (v := .agg #[.int .i64 tk.op, .int .i64 tk.num, .string tk.text, .slice ao7 tk.kids.length cap7]) (by simp [results, Tryd.results30, go_sem, q0, q1, q2, q3]) rfl ?_
      rw [hres.out]
      have hs2 := hsW.out
      have hs7 := B7.out.size
      exact ⟨ao7, cap7, rfl, (V7.out.chg z2 (fun b hb => ⟨hb.2, by have := hb.1; simp; omega⟩)).mono (fun b hb => ⟨by have := hb.1; omega, by have := hb.2; have := z2.size; omega⟩), (hBW.out.trans (B7.out.mono hBW.out.size)).trans (z2.below (B := w.heap.size) (by omega) (by simp))⟩
    · have g0 : (0 : Int) ≤ (j : Int) := by omega
      have g1 : ¬ (j : Int) < (ts.length : Int) := by omega
      have hres : Hid (swS h ts n = .var n) := by show _ = _; unfold swS; rw [h2, List.getElem?_eq_none (by omega)]; rfl
      clear h2
      go_enter Tryd.func30, Tryd.ntmps30
      go_wp2_with (go_at_call 44; rw [← HW.out]; refine HI.out.mono ?_; rintro e w5 ⟨rfl, rfl⟩)
      obtain ⟨z1, z2⟩ := four_ret (y0 := .int .i64 0) (y1 := .int .i64 n) (y2 := .string ⟨#[]⟩) (y3 := .slice ao 0 cap) Z2.out
      generalize ((((World.setCell _ _ _).setCell _ _).setCell _ _).setCell _ _) = wz at z1 z2 ⊢
      obtain ⟨q0, q1, q2, q3, _⟩ := hdr4_cells z1
      refine bodyPost_ret (v := .agg #[.int .i64 0, .int .i64 n, .string ⟨#[]⟩, .slice ao 0 cap]) (by simp [results, Tryd.results30, go_sem, q0, q1, q2, q3]) rfl ?_
      rw [hres.out]
      exact ⟨ao, cap, rfl, TyIs.mk (t := .var n) (Nat.zero_le _) hcap (Nat.zero_le _) HWN.out HAO.out TysAt.nil, hBW.out.trans (z2.below (B := w.heap.size) (by have := hsW.out; omega) (by simp))⟩
  · rw [h1] at HI
    have hres : Hid (swS h ts n = .var n) := by show _ = _; unfold swS; rw [h2]; rfl
    clear h2
    go_enter Tryd.func30, Tryd.ntmps30
    go_wp2_with (go_at_call 44; rw [← HW.out]; refine HI.out.mono ?_; rintro e w5 ⟨rfl, rfl⟩)
    obtain ⟨z1, z2⟩ := four_ret (y0 := .int .i64 0) (y1 := .int .i64 n) (y2 := .string ⟨#[]⟩) (y3 := .slice ao 0 cap) Z2.out
    generalize ((((World.setCell _ _ _).setCell _ _).setCell _ _).setCell _ _) = wz at z1 z2 ⊢
    obtain ⟨q0, q1, q2, q3, _⟩ := hdr4_cells z1
    refine bodyPost_ret (v := .agg #[.int .i64 0, .int .i64 n, .string ⟨#[]⟩, .slice ao 0 cap]) (by simp [results, Tryd.results30, go_sem, q0, q1, q2, q3]) rfl ?_
    rw [hres.out]
    exact ⟨ao, cap, rfl, TyIs.mk (t := .var n) (Nat.zero_le _) hcap (Nat.zero_le _) HWN.out HAO.out TysAt.nil, hBW.out.trans (z2.below (B := w.heap.size) (by have := hsW.out; omega) (by simp))⟩
set_option maxRecDepth 100000 in
set_option maxHeartbeats 1600000 in
theorem swap_walk {h : List Int} {ts : List Ty} {xv : Value} {ao2 : Option Addr} {cap2 : Nat} {P : Nat → Prop} (hc1 : ts.length ≤ cap2) (hc2 : cap2 ≤ maxLen) (hln : h.length ≤ 100000) (hsz2 : ∀ u ∈ ts, u.sz ≤ 100000) (k : Nat) : ∀ (t : Ty) (v : Value) (w : World), t.sz ≤ k → t.sz ≤ 100000 → TyIs w P t v → (∀ b, P b → b < w.heap.size) → IntsAt w xv h → TysAt w P ts ao2 0 →
    Calls Tryd.prog 30 #[v, xv, .slice ao2 ts.length cap2] w (NewTy w (t.sub (swS h ts))) := by
  induction k with
  | zero => intro t v w hk; have := t.sz_pos; omega
  | succ k ih =>
    intro t v w hk hsz ht hP hr hts
    cases t with
    | var n => rw [Ty.sub]; exact swap_var n ht hP hr hts hc1 hc2 hln hsz2
    | con c l =>
    have hc2' := hc2
    unfold maxLen at hc2'
    obtain ⟨ao, cap, rfl, hle, hmx, hcsz, _, hk1⟩ := ht.con
    obtain ⟨aox, capx, rfl, hcx, hcm⟩ := hr.form
    unfold maxLen at hcm hmx
    have HK1 := Lib.hid hk1
    have HCS := Lib.hid hcsz
    have HXR := Lib.hid hr
    have HTS := Lib.hid hts
    have HP := Lib.hid hP
    have HKS : Hid (∀ t ∈ l, t.sz ≤ k ∧ t.sz ≤ 100000) := fun t ht => by
      have := Ty.szs_mem ht
      rw [Ty.sz] at hk hsz
      omega
    have HLN : Hid (l.length ≤ 100000) := by
      have := Ty.szs_len l
      rw [Ty.sz] at hsz
      show l.length ≤ 100000
      omega
    have hlen := HLN.out
    have hres : Hid ((Ty.con c l).sub (swS h ts) = .con c (l.map (Ty.sub (swS h ts)))) := by show _ = _; rw [Ty.sub_con]
    clear hk1 hcsz hr hts hP ht hk hsz
    have hmk := fun W => run_makeK l.length (by omega) W
    go_enter Tryd.func30, Tryd.ntmps30
    go_wp2
    generalize hW : (((w.alloc _).alloc _).alloc _) = W
    have SW : Hid (W.heap.size = w.heap.size + 3) := by show _ = _; rw [← hW]; simp
    have ZA : Hid (W.heap[w.heap.size]? = some (.cells #[.int .i64 1, .int .i64 0, .string c, .slice ao l.length cap] 25 (0, 0))) := by
      show _ = _
      rw [← hW]; exact (heap_alloc_old _ _ (by simp; omega)).trans ((heap_alloc_old _ _ (by simp)).trans (heap_alloc_new _ _))
    have ZB : Hid (W.heap[w.heap.size + 1]? = some (.cells #[.int .i64 0, .int .i64 0, .string ⟨#[]⟩, .slice none 0 0] 25 (0, 0))) := by
      show _ = _
      rw [← hW]; exact (heap_alloc_old _ _ (by simp)).trans (heap_new2 w _ _)
    have ZM : Hid (MRow 25 W W.heap.size (w.heap.size + 1 + 1) l.length []) := by
      rw [← hW]
      have := MRow.made (T := 25) ((w.alloc (.cells #[.int .i64 1, .int .i64 0, .string c, .slice ao l.length cap] 25)).alloc (.cells #[.int .i64 0, .int .i64 0, .string ⟨#[]⟩, .slice none 0 0] 25)) l.length
      simp only [World.size_alloc] at this ⊢
      exact this _
    have BW : Hid (Below w.heap.size w W) := by rw [← hW]; exact (((Below.refl _ _).alloc (Nat.le_refl _) _).alloc (by simp) _).alloc (by simp; omega) _
    clear hW hmk
    have HL : Hid (OwnLoop 25 W (w.heap.size + 1 + 1) (l.map (Ty.sub (swS h ts))) l.length (.int .i64 0) W) := ⟨0, rfl, by simp, by rw [List.length_map]; exact ZM.out, Chg.refl _ _⟩
    go_loopg [39] l.length (fun gk s39 wr => OwnLoop 25 W (w.heap.size + 1 + 1) (l.map (Ty.sub (swS h ts))) gk s39 wr)
    case atStart => exact HL.out
    case round =>
      clear HL ZM
      obtain ⟨i, rfl, hik, hm, hc⟩ := hrel
      rw [List.length_map] at hik hm
      have hs0 := SW.out
      have hA : wr.heap[w.heap.size]? = some (.cells #[.int .i64 1, .int .i64 0, .string c, .slice ao l.length cap] 25 (0, 0)) := (hc.block w.heap.size (by omega) (by simp; omega)).trans ZA.out
      have hB : wr.heap[w.heap.size + 1]? = some (.cells #[.int .i64 0, .int .i64 0, .string ⟨#[]⟩, .slice none 0 0] 25 (0, 0)) := (hc.block (w.heap.size + 1) (by omega) (by simp)).trans ZB.out
      have HA := Lib.hid hA
      have HB := Lib.hid hB
      have HM := Lib.hid hm
      have HC := Lib.hid hc
      have BWR : Hid (Below w.heap.size w wr) := BW.out.trans (hc.below (by omega) (by simp; omega))
      clear hA hB hm hc hs0
      have g0 : (0 : Int) ≤ (i : Int) := by omega
      by_cases hlt : i < l.length
      · have g1 : (i : Int) < (l.length : Int) := by omega
        obtain ⟨tk, htk⟩ : ∃ u, l[i]? = some u := ⟨_, List.getElem?_eq_getElem hlt⟩
        obtain ⟨bb, oo, rfl, hbb⟩ := HK1.out.addr htk
        obtain ⟨_, ak, ck, p0, p1, p2, p3, hvk⟩ := HK1.out.cells htk
        rw [Nat.zero_add] at p0 p1 p2 p3
        have hbb' := HP.out _ hbb
        replace p0 := (BWR.out.cell (p := ⟨bb, oo + i * 4, none⟩) hbb').trans p0
        replace p1 := (BWR.out.cell (p := ⟨bb, oo + i * 4 + 1, none⟩) hbb').trans p1
        replace p2 := (BWR.out.cell (p := ⟨bb, oo + i * 4 + 2, none⟩) hbb').trans p2
        replace p3 := (BWR.out.cell (p := ⟨bb, oo + i * 4 + 3, none⟩) hbb').trans p3
        have hba : Below wr.heap.size wr (wr.alloc (.cells #[.int .i64 tk.op, .int .i64 tk.num, .string tk.text, .slice ak tk.kids.length ck] 25)) := (Below.refl _ _).alloc (Nat.le_refl _) _
        have hbd : Below w.heap.size w (wr.alloc (.cells #[.int .i64 tk.op, .int .i64 tk.num, .string tk.text, .slice ak tk.kids.length ck] 25)) := BWR.out.trans (hba.mono BWR.out.size)
        have HCALL := Lib.hid (ih tk _ (wr.alloc (.cells #[.int .i64 tk.op, .int .i64 tk.num, .string tk.text, .slice ak tk.kids.length ck] 25)) (HKS.out tk (List.mem_of_getElem? htk)).1 (HKS.out tk (List.mem_of_getElem? htk)).2 (hvk.below hbd HP.out) (fun b hb => Nat.lt_of_lt_of_le (HP.out b hb) hbd.size) (HXR.out.below hbd) (HTS.out.below hbd HP.out))
        have HTK : Hid ((l.map (Ty.sub (swS h ts)))[i]? = some (tk.sub (swS h ts))) := by show _ = _; rw [List.getElem?_map, htk]; rfl
        clear hvk htk hba hbd
        unfold tval NewTy at HCALL
        generalize tk.sub (swS h ts) = tr at HCALL HTK
        go_wp2_with (go_at_call 30; refine HCALL.out.mono ?_; clear HCALL; rintro e w5 ⟨ao5, cap5, rfl, hv5, hb5⟩; have hb5' : Below wr.heap.size wr w5 := (((Below.refl _ _).alloc (Nat.le_refl _) _).trans (hb5.mono (by simp))); have hm5 := HM.out.below hb5'; obtain ⟨m0, m1, m2, m3, q0, q1, q2, q3⟩ := mrow_cells hm5 hlt; have q4 := (fun j => hm5.free j); have M5 := Lib.hid hm5; have B5 := Lib.hid hb5'; have V5 := Lib.hid hv5; clear hb5 hb5' hm5 hv5)
        obtain ⟨n1, n2⟩ := M5.out.set (t := tr) (p := (ao5, cap5)) (i := i) (by rw [List.length_take, List.length_map]; omega) (own_new HM.out HC.out.size V5.out SW.out) (by rw [List.length_take, List.length_map]; omega)
        go_roundg (gk - 1)
        case measure => omega
        case rel => exact ⟨i + 1, by go_num, by rw [List.length_map]; omega, by rw [take_snoc HTK.out, List.length_map]; exact n1, (HC.out.trans (below_chg B5.out) (fun k hk => by simp at hk)).trans n2 (fun k hk => .inl hk)⟩
      · obtain rfl : i = l.length := by omega
        obtain ⟨b0, b1, b2, b3, b4⟩ := hdr4_cells HB.out
        obtain ⟨a0, a1, a2, a3, a4⟩ := hdr4_cells HA.out
        go_wp2
        obtain ⟨z1, z2⟩ := own_ret (y0 := .int .i64 1) (y1 := .int .i64 0) (y2 := .string c) (y3 := .slice (some ⟨w.heap.size + 1 + 1, 0, none⟩) l.length l.length) (x := .slice (some ⟨w.heap.size + 1 + 1, 0, none⟩) l.length l.length) HB.out
        generalize (((((World.setCell _ _ _).setCell _ _).setCell _ _).setCell _ _).setCell _ _) = wz at z1 z2 ⊢
        obtain ⟨y0, y1, y2, y3, _⟩ := hdr4_cells z1
        refine bodyPost_ret (v := .agg #[.int .i64 1, .int .i64 0, .string c, .slice (some ⟨w.heap.size + 1 + 1, 0, none⟩) l.length l.length]) (by simp [results, Tryd.results30, go_sem, y0, y1, y2, y3]) rfl ?_
        have hm := HM.out
        rw [List.take_of_length_le (by simp)] at hm
        obtain ⟨n1, n2⟩ := own_end hm z2 BWR.out HC.out.size SW.out
        rw [hres.out]
        exact ⟨_, l.length, by simp [Ty.op, Ty.num, Ty.text, Ty.kids], TyIs.mk_con (by simp) (by unfold maxLen; omega) HCS.out (fun e => by cases e) n1, n2⟩
end Go.Proofs.YthchkekegkhanaaDoor
