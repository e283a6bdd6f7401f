/- The program's full: all the way down. -/
import Derived.Test.YthchkekegkhanaaDoorKdPair
namespace Go.Proofs.YthchkekegkhanaaDoor
open Go.RowKit Go.Maps
set_option linter.unusedVariables false
variable {R : Nat → Prop}

theorem app_box {T : TypeId} {W wr w5 w6 : World} {v v' : Value} {l : List Ty} {q : Nat} {A : Array Value} {t : TypeId} {o : Obj} (ht : TStep (w5.alloc o) v w6 v') (hz : w5.heap[q]? = some (.cells A t (0, 0))) (h : TRow T wr W.heap.size v l) (hs : q < W.heap.size) : w6.heap[q]? = some (.cells A t (0, 0)) := by
  have hlt := lt_of_block hz
  refine (ht.1.block _ (by simp; omega) ?_).trans ((heap_alloc_old _ _ hlt).trans hz)
  intro hm
  have := (h.lt (Option.mem_toList.1 hm)).1
  omega
theorem app_next {T : TypeId} {W wr w5 w6 : World} {q g6 cap6 cr : Nat} {ar : Option Addr} {x0 x1 : Int} {x2 : ByteArray} {l li : List Ty} {tk : Ty} {i gk : Nat} {o : Obj} (hli : li = l.take i) (htk : l[i]? = some tk) (hik : i + gk = l.length) (hlt : i < l.length) (hc : Chg [q] W wr)
    (hr : TRow T wr W.heap.size (.slice ar li.length cr) li) (h5 : Below wr.heap.size wr w5) (ht : TStep (w5.alloc o) (.slice ar li.length cr) w6 (.slice (some ⟨g6, 0, none⟩) (li.length + 1) cap6)) (h6 : TRow T w6 W.heap.size (.slice (some ⟨g6, 0, none⟩) (li.length + 1) cap6) (li ++ [tk]))
    (hz : w6.heap[q]? = some (.cells #[.int .i64 x0, .int .i64 x1, .string x2, .slice ar li.length cr] T (0, 0))) (hs : q < W.heap.size) :
    CopyLoop T W q x0 x1 x2 l (gk - 1) (.int .i64 ((i : Int) + 1)) (w6.setCell ⟨q, 3, none⟩ (.slice (some ⟨g6, 0, none⟩) (li.length + 1) cap6)) := by
  refine ⟨i + 1, .slice (some ⟨g6, 0, none⟩) (li.length + 1) cap6, by go_num, by omega, (hdr4_set hz).trans rfl, ?_, ?_⟩
  · rw [take_snoc htk, ← hli]
    exact h6.chg (chg1_set _ _ _ _) (by simp; omega)
  · have e2 : Chg [q] W (w5.alloc o) := (hc.trans (below_chg h5) (fun k hk => by simp at hk)).alloc o
    have e3 : Chg [q] W w6 := e2.trans ht.1 (fun k hk => .inr (by have := (hr.lt (Option.mem_toList.1 hk)).1; exact this))
    exact e3.setCell (.inl (by simp)) _
theorem app_row {T : TypeId} {wr w5 : World} {base : Nat} {v : Value} {l : List Ty} (h : TRow T wr base v l) (hb : Below wr.heap.size wr w5) (o : Obj) : TRow T (w5.alloc o) base v l := (h.below hb).below ((Below.refl _ _).alloc (Nat.le_refl _) o)
theorem app_new {T : TypeId} {W wr w5 : World} {v x : Value} {l : List Ty} {t : Ty} {M : Nat} (h : TRow T wr W.heap.size v l) (hs : W.heap.size ≤ wr.heap.size) (hM : wr.heap.size ≤ M) (hv : TyIs w5 (fun b => M ≤ b ∧ b < w5.heap.size) t x) (o : Obj) :
    TyIs (w5.alloc o) (fun b => W.heap.size ≤ b ∧ b < (w5.alloc o).heap.size ∧ v.ownBlock ≠ some b) t x :=
  (hv.below ((Below.refl _ _).alloc (Nat.le_refl _) o) (fun b hb => hb.2)).mono fun b hb => by
    refine ⟨by have := hb.1; omega, by have := hb.2; simp; omega, fun e => ?_⟩
    have := (h.lt e).2
    have := hb.1
    omega
theorem app_end {T : TypeId} {w W wr wz : World} {H cr n : Nat} {ar : Option Addr} {l : List Ty} (hr : TRow T wr W.heap.size (.slice ar n cr) l) (hz : Chg [H + 1] wr wz) (hb : Below H w wr) (hs : W.heap.size ≤ wr.heap.size) (hw : H + 1 < W.heap.size) :
    l.length ≤ cr ∧ cr ≤ maxLen ∧ (ar = none → cr = 0) ∧ TysAt wz (fun b => H ≤ b ∧ b < wz.heap.size) l ar 0 ∧ Below H w wz := by
  obtain ⟨ao, cap, e, h1, h2, h3, h4⟩ := hr.kids
  cases e
  refine ⟨h1, h2, h3, ?_, hb.trans (hz.below (by omega) (by simp))⟩
  exact (h4.chg hz (fun b hb => ⟨hb.2, by simp; omega⟩)).mono fun b hb => ⟨by omega, Nat.lt_of_lt_of_le hb.2 hz.size⟩
set_option maxRecDepth 100000 in
set_option maxHeartbeats 1600000 in
theorem full_walk {p bm N n : Nat} {fr pr : Int} {σ : Int → Option Ty} {s : Int → Ty} (k : Nat) : ∀ (t : Ty) (v : Value) (w : World), ends k σ t → (t.sub s).sz ≤ 1000 → Solv R w p bm N n fr pr σ s → TyIs w (Tr R N p bm) t v →
    Calls Tryd.prog 33 #[.pointer (some ⟨p, 0, none⟩), v] w (NewTy w (t.sub s)) := by
  induction k with
  | zero => intro t v w hk; rw [ends] at hk; exact hk.elim
  | succ k ih =>
    intro t v w hk hsz h ht
    obtain ⟨ao, cap, rfl⟩ := ht.form
    have hN := h.hN
    obtain ⟨w0, hw0⟩ : ∃ w0, w0 = (w.alloc (.cells #[.int .i64 t.op, .int .i64 t.num, .string t.text, .slice ao t.kids.length cap] 25)).alloc (.cells #[.int .i64 0, .int .i64 0, .string ⟨#[]⟩, .slice none 0 0] 25) := ⟨_, rfl⟩
    have hb0 : Below w.heap.size w w0 := by rw [hw0]; exact ((Below.refl _ _).alloc (Nat.le_refl _) _).alloc (by simp) _
    have hs0 : w0.heap.size = w.heap.size + 2 := by rw [hw0]; simp
    have z0 : w0.heap[w.heap.size]? = some (.cells #[.int .i64 t.op, .int .i64 t.num, .string t.text, .slice ao t.kids.length cap] 25 (0, 0)) := by rw [hw0]; exact (heap_alloc_old _ _ (by simp)).trans (heap_alloc_new _ _)
    have z1 : w0.heap[w.heap.size + 1]? = some (.cells #[.int .i64 0, .int .i64 0, .string ⟨#[]⟩, .slice none 0 0] 25 (0, 0)) := by rw [hw0]; exact heap_new2 _ _ _
    have hsv := h.below (hb0.mono hN)
    have HHD := Lib.hid (head_any hsv t _ (ht.below hb0 (fun b hb => by have := hb.1; omega)))
    have HSV := Lib.hid hsv
    have HB0 := Lib.hid hb0
    have HS0 := Lib.hid hs0
    have HW0 := Lib.hid hw0
    have Z0 := Lib.hid z0
    have Z1 := Lib.hid z1
    have HEK := Lib.hid hk
    have HSZ := Lib.hid hsz
    clear h ht hb0 hs0 hw0 z0 z1 hsv hk hsz
    unfold tval HeadEnd at HHD
    unfold tval
    go_enter Tryd.func33, Tryd.ntmps33
    go_upto_region 2 with (go_at_call 47; rw [← HW0.out]; refine HHD.out.mono ?_; clear HHD; rintro e w5 ⟨u, ao5, cap5, rfl, hu, hho, hb5⟩; have z5 := (hb5.block w.heap.size (lt_of_block Z0.out)).trans Z0.out; have z6 := (hb5.block (w.heap.size + 1) (lt_of_block Z1.out)).trans Z1.out; obtain ⟨c0, c1, c2, c3, c4⟩ := hdr4_cells z5; have Z5 := Lib.hid z5; have Z6 := Lib.hid z6; have B5 := Lib.hid hb5; have U5 := Lib.hid hu; have HO := Lib.hid hho; clear z5 z6 hb5 hu hho)
    obtain ⟨z1, z2⟩ := four_ret (y0 := .int .i64 u.op) (y1 := .int .i64 u.num) (y2 := .string u.text) (y3 := .slice ao5 u.kids.length cap5) Z5.out
    generalize ((((World.setCell _ _ _).setCell _ _).setCell _ _).setCell _ _) = wx at z1 z2 ⊢
    have hs5 : w.heap.size + 2 ≤ w5.heap.size := by have := B5.out.size; have := HS0.out; omega
    have hsx := z2.size
    have hbx : Below w.heap.size w wx := (HB0.out.trans (B5.out.mono (by have := HS0.out; omega))).trans (z2.below (B := w.heap.size) (by omega) (by simp))
    have hux : TyIs wx (Tr R N p bm) u (tval u ao5 cap5) := U5.out.chg z2 (fun b hb => ⟨by have := hb.1; omega, by have := hb.1; simp; omega⟩)
    have zx := (z2.block (w.heap.size + 1) (by omega) (by simp)).trans Z6.out
    have hsvx := HSV.out.below ((B5.out.mono (show N ≤ w0.heap.size by have := HS0.out; omega)).trans (z2.below (B := N) (by omega) (by simp; omega)))
    obtain ⟨d0, d1, d2, d3, d4⟩ := hdr4_cells z1
    obtain ⟨e0, e1, e2, e3, e4⟩ := hdr4_cells zx
    have HBX := Lib.hid hbx
    have HUX := Lib.hid hux
    have HSX := Lib.hid hsvx
    have ZA := Lib.hid z1
    have ZB := Lib.hid zx
    clear z1 z2 zx hbx hux hsvx Z5 Z6 B5 U5 c0 c1 c2 c3 c4 hs5
    cases u with
    | var m =>
      simp only [Ty.op, Ty.num, Ty.text, Ty.kids] at d0 d1 d2 d3
      have hres : Hid (t.sub s = .var m) := by show _ = _; rw [← HO.out.eq, Ty.sub, HSX.out.sol.free m (HO.out.free m rfl)]
      have hwm : Hid ((Lit.int .i64 m).wf = true) := by obtain ⟨_, _, _, _, h, _⟩ := HUX.out.var; exact h
      go_wp2_with (go_at_call 11; refine (var_any _ _).mono ?_; rintro e w7 ⟨rfl, hb7⟩; have z7 := (hb7.block (w.heap.size + 1) (lt_of_block ZB.out)).trans ZB.out; obtain ⟨f0, f1, f2, f3, f4⟩ := hdr4_cells z7; have B7 := Lib.hid hb7; have Z7 := Lib.hid z7; clear hb7 z7)
      obtain ⟨z1, z2⟩ := four_ret (y0 := .int .i64 0) (y1 := .int .i64 m) (y2 := .string ⟨#[]⟩) (y3 := .slice none 0 0) Z7.out
      generalize ((((World.setCell _ _ _).setCell _ _).setCell _ _).setCell _ _) = wz at z1 z2 ⊢
      obtain ⟨y0, y1, y2, y3, _⟩ := hdr4_cells z1
      refine bodyPost_ret (v := .agg #[.int .i64 0, .int .i64 m, .string ⟨#[]⟩, .slice none 0 0]) (by simp [results, Tryd.results33, go_sem, y0, y1, y2, y3]) rfl ?_
      rw [hres.out]
      exact ⟨none, 0, rfl, TyIs.mk_var hwm.out, (HBX.out.trans (B7.out.mono HBX.out.size)).trans (z2.below (B := w.heap.size) (by have := B7.out.size; have := HBX.out.size; omega) (by simp))⟩
    | con c l =>
      simp only [Ty.op, Ty.num, Ty.text, Ty.kids] at d0 d1 d2 d3
      have hres : Hid (t.sub s = .con c (l.map (Ty.sub s))) := by show _ = _; rw [← HO.out.eq, Ty.sub_con]
      obtain ⟨ao1, cp1, hv1, hle1, hmx1, hcsz, _, hk1⟩ := HUX.out.con
      have hv1' : Value.slice ao5 l.length cap5 = .slice ao1 l.length cp1 := by
        have := congrArg (fun v => match v with | Value.agg a => a[3]? | _ => none) hv1
        simpa [tval, Ty.kids] using this
      cases hv1'
      unfold maxLen at hmx1
      have HK1 := Lib.hid hk1
      have HCS := Lib.hid hcsz
      have HKE : Hid (∀ t ∈ l, ends k σ t) := by
        have := HO.out.ends _ HEK.out
        rw [ends_con] at this
        exact this
      have HKS : Hid (∀ t ∈ l, (t.sub s).sz ≤ 1000) := fun t ht => by
        have h1 := HSZ.out
        rw [hres.out, Ty.sz] at h1
        have := Ty.szs_mem (List.mem_map.2 ⟨t, ht, rfl⟩ : t.sub s ∈ l.map (Ty.sub s))
        omega
      have HLN : Hid (l.length ≤ 1000) := by
        have h1 := HSZ.out
        rw [hres.out, Ty.sz] at h1
        have := Ty.szs_len (l.map (Ty.sub s))
        rw [List.length_map] at this
        show l.length ≤ 1000
        omega
      clear hv1 hk1 hcsz HUX HO HEK HSZ
      go_wp2_with (go_at_call 23; refine (con_nil c _).mono ?_; rintro e w7 ⟨rfl, hb7⟩; have za7 := (hb7.block w.heap.size (lt_of_block ZA.out)).trans ZA.out; simp only [Ty.op, Ty.num, Ty.text, Ty.kids] at za7; obtain ⟨v0, v1, v2, v3, v4⟩ := hdr4_cells za7; have x7 := (fun o => (later_box za7 o).1.2.2.2); have hbb7 := hb7.size; have hl7 := lt_of_block za7; have B7 := Lib.hid hb7; clear hb7 za7)
      obtain ⟨W, hW⟩ : ∃ W, W = w7.alloc (.cells #[.int .i64 1, .int .i64 0, .string c, .slice none 0 0] 25) := ⟨_, rfl⟩
      rw [← hW]
      clear v0 v1 v2 v3 v4 x7
      have hbW : Below wx.heap.size wx W := by rw [hW]; exact B7.out.trans ((Below.refl _ _).alloc B7.out.size _)
      have SW : Hid (W.heap.size = w7.heap.size + 1) := by show _ = _; rw [hW]; simp
      have ZC : Hid (W.heap[w7.heap.size]? = some (.cells #[.int .i64 1, .int .i64 0, .string c, .slice none 0 0] 25 (0, 0))) := by show _ = _; rw [hW]; exact heap_alloc_new _ _
      have BW := Lib.hid hbW
      clear hW hbW
      have HL : Hid (CopyLoop 25 W w7.heap.size 1 0 c (l.map (Ty.sub s)) l.length (.int .i64 0) W) := ⟨0, .slice none 0 0, rfl, by simp, ZC.out, TRow.nil _ _, Chg.refl _ _⟩
      go_loopg [23] l.length (fun gk s23 wr => CopyLoop 25 W w7.heap.size 1 0 c (l.map (Ty.sub s)) gk s23 wr)
      case atStart => exact HL.out
      case round =>
        clear HL
        obtain ⟨i, v, rfl, hik, hz, hr, hc⟩ := hrel
        rw [List.length_map] at hik
        have hb7s := B7.out.size
        have hsW := SW.out
        have hbxs := HBX.out.size
        have hcs := hc.size
        have hA : wr.heap[w.heap.size]? = _ := (hc.block w.heap.size (by omega) (by simp; omega)).trans ((BW.out.block _ (lt_of_block ZA.out)).trans ZA.out)
        have hB : wr.heap[w.heap.size + 1]? = _ := (hc.block (w.heap.size + 1) (by have := lt_of_block ZB.out; omega) (by have := lt_of_block ZB.out; simp; omega)).trans ((BW.out.block _ (lt_of_block ZB.out)).trans ZB.out)
        obtain ⟨li, hli⟩ : ∃ li, li = (l.map (Ty.sub s)).take i := ⟨_, rfl⟩
        rw [← hli] at hr
        have HLI := Lib.hid hli
        clear hli
        obtain ⟨ar, cr, rfl⟩ := hr.form
        obtain ⟨b0, b1, b2, b3, b4⟩ := hdr4_cells hB
        obtain ⟨f0, f1, f2, f3, f4⟩ := hdr4_cells hz
        have HB := Lib.hid hB
        have HZ := Lib.hid hz
        have HR := Lib.hid hr
        have HC := Lib.hid hc
        have BWR : Hid (Below w.heap.size w wr) := (HBX.out.trans (BW.out.mono hbxs)).trans (hc.below (by omega) (by simp; omega))
        have HSR : Hid (Solv R wr p bm N n fr pr σ s) := (HSX.out.below (BW.out.mono (show N ≤ wx.heap.size by omega))).below (hc.below (by omega) (by simp; omega))
        clear hA hB hz hr hc d0 d1 d2 d3 d4 e0 e1 e2 e3 e4
        have g0 : (0 : Int) ≤ (i : Int) := by omega
        by_cases hlt : i < l.length
        · have g1 : (i : Int) < (l.length : Int) := by omega
          obtain ⟨tk, htk⟩ : ∃ u, l[i]? = some u := ⟨_, List.getElem?_eq_getElem hlt⟩
          obtain ⟨bb, oo, rfl, hbb⟩ := HK1.out.addr htk
          obtain ⟨_, ak, ck, p0, p1, p2, p3, hvk⟩ := HK1.out.cells htk
          rw [Nat.zero_add] at p0 p1 p2 p3
          have hbn : bb < wx.heap.size := by have := hbb.1; omega
          have hbl : Below wx.heap.size wx wr := BW.out.trans (HC.out.below (by omega) (by simp; omega))
          replace p0 := (hbl.cell (p := ⟨bb, oo + i * 4, none⟩) hbn).trans p0
          replace p1 := (hbl.cell (p := ⟨bb, oo + i * 4 + 1, none⟩) hbn).trans p1
          replace p2 := (hbl.cell (p := ⟨bb, oo + i * 4 + 2, none⟩) hbn).trans p2
          replace p3 := (hbl.cell (p := ⟨bb, oo + i * 4 + 3, none⟩) hbn).trans p3
          have hba : Below wr.heap.size wr (wr.alloc (.cells #[.int .i64 tk.op, .int .i64 tk.num, .string tk.text, .slice ak tk.kids.length ck] 25)).drew := ((Below.refl _ _).alloc (Nat.le_refl _) _).drew
          have hvr : TyIs wr (Tr R N p bm) tk (tval tk ak ck) := hvk.below hbl (fun b hb => by have := hb.1; omega)
          have HCALL := Lib.hid (ih tk _ (wr.alloc (.cells #[.int .i64 tk.op, .int .i64 tk.num, .string tk.text, .slice ak tk.kids.length ck] 25)).drew (HKE.out tk (List.mem_of_getElem? htk)) (HKS.out tk (List.mem_of_getElem? htk)) (HSR.out.below (hba.mono (show N ≤ wr.heap.size by omega))) (hvr.below hba (fun b hb => by have := hb.1; omega)))
          have HTK : Hid ((l.map (Ty.sub s))[i]? = some (tk.sub s)) := by show _ = _; rw [List.getElem?_map, htk]; rfl
          have x3 := fun o => new_ne' wr f3 o
          have HBA := Lib.hid hba
          have hlen6 : Hid (li.length ≤ 1000) := by show _ ≤ _; rw [HLI.out, List.length_take, List.length_map]; have := HLN.out; omega
          clear hvk htk hba hvr hbn hbl
          unfold tval NewTy at HCALL
          generalize tk.sub s = tr at HCALL HTK
          go_wp2
          go_region_law (first
            | (refine step_callw (w := (wr.alloc (.cells #[.int .i64 tk.op, .int .i64 tk.num, .string tk.text, .slice ak tk.kids.length ck] 25)).drew) (by rfl) 33 #[.pointer (some ⟨p, 0, none⟩), .agg #[.int .i64 tk.op, .int .i64 tk.num, .string tk.text, .slice ak tk.kids.length ck]] ?_ HCALL.out ?_; go_simp; rintro e w15 ⟨ao15, cap15, rfl, hv15, hb15⟩; refine ⟨_, rfl, ?_⟩; replace hb15 : Below wr.heap.size wr w15 := HBA.out.trans (hb15.mono HBA.out.size); have hz15 := (hb15.block _ (lt_of_block HZ.out)).trans HZ.out; obtain ⟨q0, q1, q2, q3, q4⟩ := hdr4_cells hz15; have q5 := (fun o => (later_box hz15 o).1.2.2.2); have B15 := Lib.hid hb15; have V15 := Lib.hid hv15; have Z15 := Lib.hid hz15; clear hb15 hv15 hz15)
            | (refine step_appt (w := w15.alloc (.cells #[.int .i64 tr.op, .int .i64 tr.num, .string tr.text, .slice ao15 tr.kids.length cap15] 25)) (by rfl) _ _ 23 25 rfl Tryd.underlying23 infoK (base := W.heap.size) (by rfl) (app_row HR.out B15.out _) (t := tr) (p := (ao15, cap15)) (ad := ⟨w15.heap.size, 0, none⟩) (c := 1) (by rfl) (cell_four_new _ _ _ _ _ _) (app_new HR.out HC.out.size HBA.out.size V15.out _) (by have := HC.out.size; have := B15.out.size; simp; omega) (by have := hlen6.out; omega) ?_; intro g16 cap16 w16 hr16 ht16; have hz16 := app_box ht16 Z15.out HR.out (by have := SW.out; omega); obtain ⟨r0, r1, r2, r3, r4⟩ := hdr4_cells hz16; have R16 := Lib.hid hr16; have T16 := Lib.hid ht16; have Z16 := Lib.hid hz16; clear hr16 ht16 hz16))
          all_goals go_wp2
          all_goals
            go_roundg (gk - 1)
            case measure => omega
            case rel => exact app_next HLI.out HTK.out (by rw [List.length_map]; omega) (by rw [List.length_map]; omega) HC.out HR.out B15.out T16.out R16.out Z16.out (by have := SW.out; omega)
        · obtain rfl : i = l.length := by omega
          have hlieq : Hid (li = l.map (Ty.sub s)) := by show _ = _; rw [HLI.out, List.take_of_length_le (by simp)]
          go_wp2
          obtain ⟨z1, z2⟩ := four_ret (y0 := .int .i64 1) (y1 := .int .i64 0) (y2 := .string c) (y3 := .slice ar li.length cr) HB.out
          generalize ((((World.setCell _ _ _).setCell _ _).setCell _ _).setCell _ _) = wz at z1 z2 ⊢
          obtain ⟨y0, y1, y2, y3, _⟩ := hdr4_cells z1
          refine bodyPost_ret (v := .agg #[.int .i64 1, .int .i64 0, .string c, .slice ar li.length cr]) (by simp [results, Tryd.results33, go_sem, y0, y1, y2, y3]) rfl ?_
          have hr := HR.out
          rw [hlieq.out] at hr
          rw [hres.out, hlieq.out]
          obtain ⟨n1, n2, n3, n4, n5⟩ := app_end hr z2 BWR.out HC.out.size (by have := SW.out; have := lt_of_block ZB.out; omega)
          exact ⟨ar, cr, rfl, TyIs.mk_con n1 n2 HCS.out n3 n4, n5⟩
end Go.Proofs.YthchkekegkhanaaDoor
/- The program's New, Fresh, Full, Unify. -/
namespace Go.Proofs.YthchkekegkhanaaDoor
open Go.RowKit Go.Maps
set_option linter.unusedVariables false
variable {R : Nat → Prop}

def YesEnd (w : World) (y : Ty) (e : Ending) (w' : World) : Prop :=
  ∃ ao cap, e = .returned (.tuple #[.agg #[.int .i64 y.op, .int .i64 y.num, .string y.text, .slice ao y.kids.length cap], .int .i64 0]) ∧ TyIs w' (fun b => w.heap.size ≤ b ∧ b < w'.heap.size) y (tval y ao cap) ∧ Below w.heap.size w w'
def NoEnd (w : World) (c : Int) (e : Ending) (w' : World) : Prop :=
  e = .returned (.tuple #[.agg #[.int .i64 0, .int .i64 0, .string ⟨#[]⟩, .slice none 0 0], .int .i64 c]) ∧ Below w.heap.size w w'
set_option maxRecDepth 100000 in
set_option maxHeartbeats 1600000 in
theorem full_yes {w : World} {p bm N n : Nat} {fr pr : Int} {σ : Int → Option Ty} {s : Int → Ty} (h : Solv R w p bm N n fr pr σ s) (t : Ty) (v : Value) (ht : TyIs w (Tr R N p bm) t v) (hsz : (t.sub s).sz ≤ 1000) :
    Calls Tryd.prog 10 #[.pointer (some ⟨p, 0, none⟩), v] w (YesEnd w (t.sub s)) := by
  obtain ⟨ao, cap, rfl⟩ := ht.form
  have hN := h.hN
  obtain ⟨K, hK⟩ := h.sol.all t
  obtain ⟨w0, hw0⟩ : ∃ w0, w0 = (w.alloc (.cells #[.int .i64 t.op, .int .i64 t.num, .string t.text, .slice ao t.kids.length cap] 25)).alloc (.cells #[.int .i64 0, .int .i64 0, .string ⟨#[]⟩, .slice none 0 0] 25) := ⟨_, rfl⟩
  have hb0 : Below w.heap.size w w0 := by rw [hw0]; exact ((Below.refl _ _).alloc (Nat.le_refl _) _).alloc (by simp) _
  have hs0 : w0.heap.size = w.heap.size + 2 := by rw [hw0]; simp
  have z0 : w0.heap[w.heap.size]? = some (.cells #[.int .i64 t.op, .int .i64 t.num, .string t.text, .slice ao t.kids.length cap] 25 (0, 0)) := by rw [hw0]; exact (heap_alloc_old _ _ (by simp)).trans (heap_alloc_new _ _)
  have z1 : w0.heap[w.heap.size + 1]? = some (.cells #[.int .i64 0, .int .i64 0, .string ⟨#[]⟩, .slice none 0 0] 25 (0, 0)) := by rw [hw0]; exact heap_new2 _ _ _
  have hsv := h.below (hb0.mono hN)
  have htv : TyIs w0 (Tr R N p bm) t (tval t ao cap) := ht.below hb0 (fun b hb => by have := hb.1; omega)
  have HS := Lib.hid (small_any hsv t _ htv)
  have HF : Hid (∀ W, Below w0.heap.size w0 W → Calls Tryd.prog 33 #[.pointer (some ⟨p, 0, none⟩), tval t ao cap] W (NewTy W (t.sub s))) := fun W hW => full_walk K t _ W hK hsz (hsv.below (hW.mono (show N ≤ w0.heap.size by omega))) (htv.below hW (fun b hb => by have := hb.1; omega))
  have HW0 := Lib.hid hw0
  have HB0 := Lib.hid hb0
  have HS0 := Lib.hid hs0
  have Z0 := Lib.hid z0
  have Z1 := Lib.hid z1
  rw [decide_eq_true hsz] at HS
  clear h ht hb0 hs0 hw0 z0 z1 hsv htv hK hsz
  unfold SmallEnd tval at HS
  unfold NewTy tval at HF
  unfold tval
  generalize t.sub s = y at *
  go_enter Tryd.func10, Tryd.ntmps10
  go_wp2_with (first
    | (go_at_call 32; rw [← HW0.out]; refine HS.out.mono ?_; clear HS; rintro e w5 ⟨rfl, hb5⟩; have z5 := (hb5.block w.heap.size (lt_of_block Z0.out)).trans Z0.out; obtain ⟨c0, c1, c2, c3, c4⟩ := hdr4_cells z5; have B5 := Lib.hid hb5; clear hb5 z5)
    | (go_at_call 33; refine (HF.out w5 B5.out).mono ?_; clear HF; rintro e w7 ⟨ao7, cap7, rfl, hv7, hb7⟩; have z7 := (hb7.block _ (Nat.lt_of_lt_of_le (lt_of_block Z1.out) B5.out.size)).trans ((B5.out.block _ (lt_of_block Z1.out)).trans Z1.out); obtain ⟨d0, d1, d2, d3, d4⟩ := hdr4_cells z7; have Z7 := Lib.hid z7; have B7 := Lib.hid hb7; have V7 := Lib.hid hv7; clear hb7 hv7 z7))
  obtain ⟨z1, z2⟩ := four_ret (y0 := .int .i64 y.op) (y1 := .int .i64 y.num) (y2 := .string y.text) (y3 := .slice ao7 y.kids.length cap7) Z7.out
  generalize ((((World.setCell _ _ _).setCell _ _).setCell _ _).setCell _ _) = wz at z1 z2 ⊢
  obtain ⟨y0, y1, y2, y3, _⟩ := hdr4_cells z1
  refine bodyPost_ret (v := .tuple #[.agg #[.int .i64 y.op, .int .i64 y.num, .string y.text, .slice ao7 y.kids.length cap7], .int .i64 0]) (by simp [results, Tryd.results10, go_sem, y0, y1, y2, y3]) rfl ?_
  have h1 := B5.out.size
  have h2 := HS0.out
  have h3 := B7.out.size
  refine ⟨ao7, cap7, rfl, (V7.out.chg z2 (fun b hb => ⟨hb.2, by have := hb.1; simp; omega⟩)).mono (fun b hb => ⟨by have := hb.1; omega, Nat.lt_of_lt_of_le hb.2 z2.size⟩), ?_⟩
  exact ((HB0.out.trans (B5.out.mono (by omega))).trans (B7.out.mono (by omega))).trans (z2.below (B := w.heap.size) (by omega) (by simp))
set_option maxRecDepth 100000 in
set_option maxHeartbeats 1600000 in
theorem full_no {w : World} {p bm N n : Nat} {fr pr : Int} {σ : Int → Option Ty} {s : Int → Ty} (h : Solv R w p bm N n fr pr σ s) (t : Ty) (v : Value) (ht : TyIs w (Tr R N p bm) t v) (hsz : ¬ (t.sub s).sz ≤ 1000) :
    Calls Tryd.prog 10 #[.pointer (some ⟨p, 0, none⟩), v] w (NoEnd w 4) := by
  obtain ⟨ao, cap, rfl⟩ := ht.form
  have hN := h.hN
  obtain ⟨w0, hw0⟩ : ∃ w0, w0 = (w.alloc (.cells #[.int .i64 t.op, .int .i64 t.num, .string t.text, .slice ao t.kids.length cap] 25)).alloc (.cells #[.int .i64 0, .int .i64 0, .string ⟨#[]⟩, .slice none 0 0] 25) := ⟨_, rfl⟩
  have hb0 : Below w.heap.size w w0 := by rw [hw0]; exact ((Below.refl _ _).alloc (Nat.le_refl _) _).alloc (by simp) _
  have hs0 : w0.heap.size = w.heap.size + 2 := by rw [hw0]; simp
  have z1 : w0.heap[w.heap.size + 1]? = some (.cells #[.int .i64 0, .int .i64 0, .string ⟨#[]⟩, .slice none 0 0] 25 (0, 0)) := by rw [hw0]; exact heap_new2 _ _ _
  have hsv := h.below (hb0.mono hN)
  have htv : TyIs w0 (Tr R N p bm) t (tval t ao cap) := ht.below hb0 (fun b hb => by have := hb.1; omega)
  have HS := Lib.hid (small_any hsv t _ htv)
  have HW0 := Lib.hid hw0
  have HB0 := Lib.hid hb0
  have HS0 := Lib.hid hs0
  have Z1 := Lib.hid z1
  rw [decide_eq_false hsz] at HS
  clear h ht hb0 hs0 hw0 z1 hsv htv hsz
  unfold SmallEnd tval at HS
  unfold tval
  go_enter Tryd.func10, Tryd.ntmps10
  go_wp2_with (go_at_call 32; rw [← HW0.out]; refine HS.out.mono ?_; clear HS; rintro e w5 ⟨rfl, hb5⟩; have z5 := (hb5.block (w.heap.size + 1) (lt_of_block Z1.out)).trans Z1.out; obtain ⟨c0, c1, c2, c3, c4⟩ := hdr4_cells z5; have B5 := Lib.hid hb5; have Z5 := Lib.hid z5; clear hb5 z5)
  obtain ⟨z1, z2⟩ := four_ret (y0 := .int .i64 0) (y1 := .int .i64 0) (y2 := .string ⟨#[]⟩) (y3 := .slice none 0 0) Z5.out
  generalize ((((World.setCell _ _ _).setCell _ _).setCell _ _).setCell _ _) = wz at z1 z2 ⊢
  obtain ⟨y0, y1, y2, y3, _⟩ := hdr4_cells z1
  refine bodyPost_ret (v := .tuple #[.agg #[.int .i64 0, .int .i64 0, .string ⟨#[]⟩, .slice none 0 0], .int .i64 4]) (by simp [results, Tryd.results10, go_sem, y0, y1, y2, y3]) rfl ?_
  have h1 := B5.out.size
  have h2 := HS0.out
  exact ⟨rfl, (HB0.out.trans (B5.out.mono (by omega))).trans (z2.below (B := w.heap.size) (by omega) (by simp))⟩
set_option maxRecDepth 100000 in
/-- No solver. -/
theorem full_nil (x0 x1 x2 x3 : Value) (w : World) : Calls Tryd.prog 10 #[.pointer none, .agg #[x0, x1, x2, x3]] w (NoEnd w 1) := by
  go_enter Tryd.func10, Tryd.ntmps10
  go_wp2
  refine bodyPost_ret (v := .tuple #[.agg #[.int .i64 0, .int .i64 0, .string ⟨#[]⟩, .slice none 0 0], .int .i64 1]) (by simp [results, Tryd.results10, go_sem]) rfl ?_
  exact ⟨rfl, ((Below.refl _ _).alloc (Nat.le_refl _) _).alloc (by simp) _⟩
set_option maxRecDepth 100000 in
theorem unify_nil (x0 x1 x2 x3 y0 y1 y2 y3 : Value) (w : World) : Calls Tryd.prog 13 #[.pointer none, .agg #[x0, x1, x2, x3], .agg #[y0, y1, y2, y3]] w fun e w' => e = .returned (.int .i64 1) ∧ Below w.heap.size w w' := by
  go_enter Tryd.func13, Tryd.ntmps13
  go_wp2
  go_ret
  exact ⟨rfl, ((Below.refl _ _).alloc (Nat.le_refl _) _).alloc (by simp) _⟩
set_option maxRecDepth 100000 in
theorem fresh_nil (w : World) : Calls Tryd.prog 14 #[.pointer none] w fun e w' => e = .returned (.agg #[.int .i64 0, .int .i64 0, .string ⟨#[]⟩, .slice none 0 0]) ∧ Below w.heap.size w w' := by
  go_enter Tryd.func14, Tryd.ntmps14
  go_wp2
  exact bodyPost_ret (v := .agg #[.int .i64 0, .int .i64 0, .string ⟨#[]⟩, .slice none 0 0]) (by simp [results, Tryd.results14, go_sem]) rfl ⟨rfl, (Below.refl _ _).alloc (Nat.le_refl _) _⟩
set_option maxRecDepth 100000 in
theorem new_any (w : World) : Calls Tryd.prog 15 #[] w fun e w' => e = .returned (.pointer (some ⟨w.heap.size + 1, 0, none⟩)) ∧ Solv R w' (w.heap.size + 1) w.heap.size (w.heap.size + 2) 0 0 0 (fun _ => none) Ty.var ∧ Below w.heap.size w w' ∧ w'.heap.size = w.heap.size + 2 := by
  have hmm := @run_makeMap Tryd.prog
  go_enter Tryd.func15, Tryd.ntmps15
  go_wp2
  go_ret
  refine ⟨rfl, ⟨heap_new2 w _ _, ⟨fun _ => none, (VMap.made w).alloc _, fun k => .inl ⟨rfl, rfl⟩⟩, sol_nil, by omega, by omega, by omega, by simp⟩, ((Below.refl _ _).alloc (Nat.le_refl _) _).alloc (by simp) _, by simp⟩
end Go.Proofs.YthchkekegkhanaaDoor
/- The program's Unify and Fresh, said of what variables stand for. -/
namespace Go.Proofs.YthchkekegkhanaaDoor
open Go.RowKit Go.Maps
set_option linter.unusedVariables false
variable {R : Nat → Prop}

theorem Solv.raise {w : World} {p bm N N' n : Nat} {fr pr : Int} {σ : Int → Option Ty} {s : Int → Ty} (h : Solv R w p bm N n fr pr σ s) (h1 : N ≤ N') (h2 : N' ≤ w.heap.size) : Solv R w p bm N' n fr pr σ s := by
  refine ⟨h.hdr, ?_, h.sol, by have := h.lp; omega, by have := h.lb; omega, h.ne, h2⟩
  obtain ⟨f, hf, hk⟩ := h.map
  refine ⟨f, hf, fun k => ?_⟩
  rcases hk k with h3 | ⟨t, v, h3, h4, h5⟩
  · exact .inl h3
  · exact .inr ⟨t, v, h3, h4, h5.mono fun b hb => ⟨Nat.lt_of_lt_of_le hb.1 h1, hb.2⟩⟩
/-- The program's solver at p knows what s says; n: variables that were ever bound, at most. -/
def SolvAt (R : Nat → Prop) (w : World) (p bm n : Nat) (fr : Int) (s : Int → Ty) : Prop := ∃ pr σ, Solv R w p bm w.heap.size n fr pr σ s
theorem SolvAt.chg {w w' : World} {p bm n : Nat} {fr : Int} {s : Int → Ty} (h : SolvAt R w p bm n fr s) (hb : Below w.heap.size w w') : SolvAt R w' p bm n fr s := by
  obtain ⟨pr, σ, h⟩ := h
  exact ⟨pr, σ, (h.below hb).raise hb.size (Nat.le_refl _)⟩
theorem SolvAt.mono {w : World} {p bm n n' : Nat} {fr : Int} {s : Int → Ty} (h : SolvAt R w p bm n fr s) (hn : n ≤ n') : SolvAt R w p bm n' fr s := by
  obtain ⟨pr, σ, h⟩ := h
  obtain ⟨f, hf, hk⟩ := h.map
  exact ⟨pr, σ, ⟨h.hdr, ⟨f, hf.mono hn, hk⟩, h.sol, h.lp, h.lb, h.ne, h.hN⟩⟩
theorem SolvAt.lt {w : World} {p bm n : Nat} {fr : Int} {s : Int → Ty} (h : SolvAt R w p bm n fr s) : p < w.heap.size ∧ bm < w.heap.size ∧ p ≠ bm := by
  obtain ⟨pr, σ, h⟩ := h
  exact ⟨h.lp, h.lb, h.ne⟩
theorem SolvAt.idem {w : World} {p bm n : Nat} {fr : Int} {s : Int → Ty} (h : SolvAt R w p bm n fr s) : Idem s := by
  obtain ⟨pr, σ, h⟩ := h
  exact h.sol.idem
/-- What Unify of two types does to what variables stand for. -/
def uni (s : Int → Ty) (a b : Ty) : Int × (Int → Ty) := ((pairF 10001 (s, 10000) a b).1, (pairF 10001 (s, 10000) a b).2.1)
def UniEnd (R : Nat → Prop) (w : World) (p bm n : Nat) (fr : Int) (r : Int × (Int → Ty)) (e : Ending) (w' : World) : Prop :=
  e = .returned (.int .i64 r.1) ∧ SolvAt R w' p bm (n + 10000) fr r.2 ∧ Chg [p, bm] w w'
theorem hu_into {W1 w5 w7 : World} {t : Ty} {v : Value} (h : TyIs w5 (fun x => W1.drew.heap.size ≤ x ∧ x < w5.heap.size) t v) (hb : Below w5.heap.size w5 w7) : TyIs w7 (fun x => W1.heap.size ≤ x ∧ x < w7.heap.size) t v :=
  (h.below hb (fun b hb => hb.2)).mono fun b hb' => ⟨hb'.1, Nat.lt_of_lt_of_le hb'.2 hb.size⟩
theorem hx_into {W1 w5 w7 : World} {t : Ty} {v : Value} (h : TyIs w7 (fun x => w5.heap.size ≤ x ∧ x < w7.heap.size) t v) (hs : W1.heap.size ≤ w5.heap.size) : TyIs w7 (fun x => W1.heap.size ≤ x ∧ x < w7.heap.size) t v :=
  h.mono fun b hb' => ⟨Nat.le_trans hs hb'.1, hb'.2⟩
theorem Solv.bump {w : World} {p bm N n : Nat} {fr pr : Int} {σ : Int → Option Ty} {s : Int → Ty} (h : Solv R w p bm N n fr pr σ s) (x : Int) : Solv R (w.setCell ⟨p, 1, none⟩ (.int .i64 x)) p bm N n x pr σ s ∧ Chg [p] w (w.setCell ⟨p, 1, none⟩ (.int .i64 x)) := by
  have hc := chg1_set w p 1 (.int .i64 x)
  refine ⟨⟨?_, ?_, h.sol, h.lp, h.lb, h.ne, Nat.le_trans h.hN hc.size⟩, hc⟩
  · exact (setc_block h.hdr).trans rfl
  · obtain ⟨f, hf, hk⟩ := h.map
    refine ⟨f, hf.chg hc (by have := h.ne; simpa using Ne.symm this), fun k => ?_⟩
    rcases hk k with h1 | ⟨t, v, h1, h2, h3⟩
    · exact .inl h1
    · exact .inr ⟨t, v, h1, h2, h3.chg hc (fun b hb => ⟨by have := hb.1; have := h.hN; omega, by have := hb.2.1; simpa using this⟩)⟩
set_option maxRecDepth 100000 in
set_option maxHeartbeats 1600000 in
theorem unify_any {w : World} {p bm n : Nat} {fr : Int} {s : Int → Ty} (h : SolvAt R w p bm n fr s) (hR : ∀ b, w.heap.size ≤ b → R b) (hn : n < 100000000) (a b : Ty) (va vb : Value) (ha : TyIs w (Tr R w.heap.size p bm) a va) (hb : TyIs w (Tr R w.heap.size p bm) b vb) (hsa : a.sz ≤ 100000) (hsb : b.sz ≤ 100000) :
    Calls Tryd.prog 13 #[.pointer (some ⟨p, 0, none⟩), va, vb] w (UniEnd R w p bm n fr (uni s a b)) := by
  obtain ⟨pr, σ, h⟩ := h
  obtain ⟨aoa, capa, rfl⟩ := ha.form
  obtain ⟨aob, capb, rfl⟩ := hb.form
  have hlp := h.lp
  have hlb := h.lb
  obtain ⟨w0, hw0⟩ : ∃ w0, w0 = (w.alloc (.cells #[.int .i64 a.op, .int .i64 a.num, .string a.text, .slice aoa a.kids.length capa] 25)).alloc (.cells #[.int .i64 b.op, .int .i64 b.num, .string b.text, .slice aob b.kids.length capb] 25) := ⟨_, rfl⟩
  have hb0 : Below w.heap.size w w0 := by rw [hw0]; exact ((Below.refl _ _).alloc (Nat.le_refl _) _).alloc (by simp) _
  have hs0 : w0.heap.size = w.heap.size + 2 := by rw [hw0]; simp
  have z0 : w0.heap[w.heap.size]? = some (.cells #[.int .i64 a.op, .int .i64 a.num, .string a.text, .slice aoa a.kids.length capa] 25 (0, 0)) := by rw [hw0]; exact (heap_alloc_old _ _ (by simp)).trans (heap_alloc_new _ _)
  have z1 : w0.heap[w.heap.size + 1]? = some (.cells #[.int .i64 b.op, .int .i64 b.num, .string b.text, .slice aob b.kids.length capb] 25 (0, 0)) := by rw [hw0]; exact heap_new2 _ _ _
  have hsv := h.below hb0
  obtain ⟨e0, e1, e2, e3⟩ := hdr3_cells hsv.hdr
  obtain ⟨hsv1, hc1⟩ := hsv.count 0 _ rfl
  have hta : TyIs (w0.setCell ⟨p, 2, none⟩ (.int .i64 0)) (Tr R w.heap.size p bm) a (tval a aoa capa) := (ha.below hb0 (fun b hb => hb.1)).chg hc1 (fun b hb => ⟨by have := hb.1; omega, by have := hb.2.1; simpa using this⟩)
  have htb : TyIs (w0.setCell ⟨p, 2, none⟩ (.int .i64 0)) (Tr R w.heap.size p bm) b (tval b aob capb) := (hb.below hb0 (fun b hb => hb.1)).chg hc1 (fun b hb => ⟨by have := hb.1; omega, by have := hb.2.1; simpa using this⟩)
  have za := (hc1.block w.heap.size (by omega) (by simp; omega)).trans z0
  have zb := (hc1.block (w.heap.size + 1) (by omega) (by simp; omega)).trans z1
  have hcw : Chg [p, bm] w (w0.setCell ⟨p, 2, none⟩ (.int .i64 0)) := ((below_chg hb0).mono (by simp)).trans hc1 (fun k hk => .inl (by simp at hk; simp [hk]))
  have hs1 : (w0.setCell ⟨p, 2, none⟩ (.int .i64 0)).heap.size = w.heap.size + 2 := by simp [World.setCell, hs0]
  unfold tval
  go_enter Tryd.func13, Tryd.ntmps13
  go_upto_region 1 with fail
  rw [← hw0]
  clear hw0 h ha hb hb0 hsv z0 z1 hc1 hs0
  go_upto_region 4 with fail
  generalize (w0.setCell ⟨p, 2, none⟩ (.int .i64 0)) = W1 at hsv1 hta htb za zb hcw hs1 ⊢
  have HOA : Hid (∀ W, Below W1.heap.size W1 W → Calls Tryd.prog 35 #[tval a aoa capa] W (NewTy W a)) := fun W hW => own_walk a.sz a _ W (Tr R w.heap.size p bm) (Nat.le_refl _) hsa (hta.below hW (fun b hb => by have := hb.1; omega)) (fun b hb => by have := hb.1; have := hW.size; omega)
  have HOB : Hid (∀ W, Below W1.heap.size W1 W → Calls Tryd.prog 35 #[tval b aob capb] W (NewTy W b)) := fun W hW => own_walk b.sz b _ W (Tr R w.heap.size p bm) (Nat.le_refl _) hsb (htb.below hW (fun b hb => by have := hb.1; omega)) (fun b hb => by have := hb.1; have := hW.size; omega)
  have HPA : Hid (∀ (W : World) (va vb : Value), Below W1.heap.size W1 W → TyIs W (fun x => W1.heap.size ≤ x ∧ x < W.heap.size) a va → TyIs W (fun x => W1.heap.size ≤ x ∧ x < W.heap.size) b vb → Calls Tryd.prog 34 #[.pointer (some ⟨p, 0, none⟩), va, vb] W (PairEnd R W p bm W.heap.size n fr 10000 (pairF 10001 (s, 10000) a b))) := fun W va vb hW h1 h2 =>
    pair_walk 10001 10000 n a b va vb W σ s (by omega) (Nat.le_refl _) (by omega) ((hsv1.below (hW.mono (show w.heap.size ≤ W1.heap.size by omega))).raise (by have := hW.size; omega) (Nat.le_refl _)) (h1.mono fun x hx => ⟨hx.2, by have := hx.1; omega, by have := hx.1; omega, hR _ (by have := hx.1; omega)⟩) (h2.mono fun x hx => ⟨hx.2, by have := hx.1; omega, by have := hx.1; omega, hR _ (by have := hx.1; omega)⟩)
  unfold NewTy tval at HOA HOB
  unfold PairEnd at HPA
  obtain ⟨c0, c1, c2, c3, c4⟩ := hdr4_cells za
  obtain ⟨d0, d1, d2, d3, d4⟩ := hdr4_cells zb
  have ZA := Lib.hid za
  have ZB := Lib.hid zb
  have HCW := Lib.hid hcw
  have HS1 := Lib.hid hs1
  clear hsv1 hta htb za zb hcw hs1 e0 e1 e2 e3
  go_wp2
  go_region_law (first
    | (refine step_callw (w := W1.drew) (by rfl) 35 #[.agg #[.int .i64 a.op, .int .i64 a.num, .string a.text, .slice aoa a.kids.length capa]] ?_ (HOA.out W1.drew (Below.refl _ _).drew) ?_; go_simp; rintro e w5 ⟨aou, capu, rfl, hu, hb5⟩; refine ⟨_, rfl, ?_⟩; replace hb5 : Below W1.heap.size W1 w5 := ((Below.refl _ _).drew).trans hb5; have zb5 := (hb5.block (w.heap.size + 1) (lt_of_block ZB.out)).trans ZB.out; obtain ⟨g0, g1', g2', g3', g4⟩ := hdr4_cells zb5; have B5 := Lib.hid hb5; have U5 := Lib.hid hu; clear hb5 hu zb5)
    | (refine step_callw (w := w5) (by rfl) 35 #[.agg #[.int .i64 b.op, .int .i64 b.num, .string b.text, .slice aob b.kids.length capb]] ?_ (HOB.out w5 B5.out) ?_; go_simp; rintro e w7 ⟨aox, capx, rfl, hx, hb7⟩; refine ⟨_, rfl, ?_⟩; have U7 := Lib.hid (hu_into U5.out hb7); have X7 := Lib.hid (hx_into hx B5.out.size); have B7 := Lib.hid (B5.out.trans (hb7.mono B5.out.size)); clear hb7 hx)
    | (refine step_callw (w := w7) (by rfl) 34 #[.pointer (some ⟨p, 0, none⟩), .agg #[.int .i64 a.op, .int .i64 a.num, .string a.text, .slice aou a.kids.length capu], .agg #[.int .i64 b.op, .int .i64 b.num, .string b.text, .slice aox b.kids.length capx]] ?_ (HPA.out w7 _ _ B7.out U7.out X7.out) ?_; go_simp; rintro e w9 ⟨σ9, n9, rfl, hsv9, hn9, hc9⟩; refine ⟨_, rfl, ?_⟩; have HSV9 := Lib.hid hsv9; have HN9 := Lib.hid hn9; have HC9 := Lib.hid hc9; clear hsv9 hn9 hc9))
  all_goals go_wp2
  all_goals go_ret
  all_goals
    have hb7 := B7.out
    have h1s := HS1.out
    have h9s := HC9.out.size
    refine ⟨rfl, SolvAt.mono ⟨_, σ9, HSV9.out.raise h9s (Nat.le_refl _)⟩ (by have := HN9.out; omega), ?_⟩
    exact (HCW.out.trans ((below_chg hb7).mono (by simp)) (fun k hk => .inl hk)).trans HC9.out (fun k hk => .inl hk)
set_option maxRecDepth 100000 in
theorem fresh_any {w : World} {p bm n : Nat} {fr : Int} {s : Int → Ty} (h : SolvAt R w p bm n fr s) (h0 : 0 ≤ fr) (h1 : fr ≤ 1000000) :
    Calls Tryd.prog 14 #[.pointer (some ⟨p, 0, none⟩)] w fun e w' => e = .returned (.agg #[.int .i64 0, .int .i64 (fr + 1), .string ⟨#[]⟩, .slice none 0 0]) ∧ SolvAt R w' p bm n (fr + 1) s ∧ Chg [p] w w' := by
  obtain ⟨pr, σ, h⟩ := h
  have hsv := h.below ((Below.refl w.heap.size w).alloc (Nat.le_refl _) (.cells #[.int .i64 0, .int .i64 0, .string ⟨#[]⟩, .slice none 0 0] 25))
  have hlp := h.lp
  obtain ⟨e0, e1, e2, e3⟩ := hdr3_cells hsv.hdr
  have z0 := heap_alloc_new w (.cells #[.int .i64 0, .int .i64 0, .string ⟨#[]⟩, .slice none 0 0] 25)
  generalize hX : w.alloc (.cells #[.int .i64 0, .int .i64 0, .string ⟨#[]⟩, .slice none 0 0] 25) = X at hsv e0 e1 e2 e3 z0
  have HX := Lib.hid hX
  have BX : Hid (Below w.heap.size w X) := by rw [← hX]; exact (Below.refl _ _).alloc (Nat.le_refl _) _
  obtain ⟨hs2, hc2⟩ := hsv.bump (fr + 1)
  obtain ⟨f0, f1, f2, f3⟩ := hdr3_cells hs2.hdr
  have z2 := (hc2.block w.heap.size (lt_of_block z0) (by simp; omega)).trans z0
  have HS2 := Lib.hid hs2
  have HC2 := Lib.hid hc2
  have Z2 := Lib.hid z2
  clear h hsv hX z0 hs2 hc2 z2
  go_enter Tryd.func14, Tryd.ntmps14
  go_upto_region 1 with fail
  rw [HX.out]
  go_upto_region 4 with fail
  generalize (X.setCell ⟨p, 1, none⟩ (.int .i64 (fr + 1))) = Y at f0 f1 f2 f3 HS2 HC2 Z2 ⊢
  go_wp2_with (go_at_call 11; refine (var_any _ _).mono ?_; rintro e w7 ⟨rfl, hb7⟩; have z7 := (hb7.block w.heap.size (lt_of_block Z2.out)).trans Z2.out; obtain ⟨d0, d1, d2, d3, d4⟩ := hdr4_cells z7; have B7 := Lib.hid hb7; have Z7 := Lib.hid z7; clear hb7 z7)
  obtain ⟨z1, z2⟩ := four_ret (y0 := .int .i64 0) (y1 := .int .i64 (fr + 1)) (y2 := .string ⟨#[]⟩) (y3 := .slice none 0 0) Z7.out
  generalize ((((World.setCell _ _ _).setCell _ _).setCell _ _).setCell _ _) = wz at z1 z2 ⊢
  obtain ⟨y0, y1, y2, y3, _⟩ := hdr4_cells z1
  refine bodyPost_ret (v := .agg #[.int .i64 0, .int .i64 (fr + 1), .string ⟨#[]⟩, .slice none 0 0]) (by simp [results, Tryd.results14, go_sem, y0, y1, y2, y3]) rfl ?_
  have h2 := HC2.out.size
  have h3 := BX.out.size
  have h7 := B7.out.size
  have hbz : Below w.heap.size Y wz := (B7.out.mono (by omega)).trans (z2.below (B := w.heap.size) (by omega) (by simp))
  refine ⟨rfl, ⟨pr, σ, (HS2.out.below hbz).raise (by have := hbz.size; omega) (Nat.le_refl _)⟩, ?_⟩
  have hbz' : Chg [w.heap.size] Y wz := ((below_chg B7.out).mono (by simp)).trans z2 (fun k hk => .inl hk)
  exact (((below_chg BX.out).mono (F' := [p]) (by simp)).trans HC2.out (fun k hk => .inl hk)).trans hbz' (fun k hk => .inr (by simp at hk; omega))
end Go.Proofs.YthchkekegkhanaaDoor
