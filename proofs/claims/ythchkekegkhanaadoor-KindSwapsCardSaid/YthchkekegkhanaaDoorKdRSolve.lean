/- The reference's full. -/
import Derived.Test.YthchkekegkhanaaDoorKdRPair
namespace Go.Proofs.YthchkekegkhanaaDoor
open Go.RowKit Go.Maps
set_option linter.unusedVariables false

set_option maxRecDepth 100000 in
set_option maxHeartbeats 1600000 in
theorem refFull_walk {wb : World} {p : Nat} {v : Value} {md pr : Int} {L : List (Int × Ty)} {s : Int → Ty} (h : RSolv wb p v md pr L s) (k : Nat) : ∀ (t : Ty) (x : Value) (w : World), ends k (look L) t → (t.sub s).sz ≤ 1000 → Below wb.heap.size wb w → TyIs w (Rr wb p v) t x →
    Calls Tryd.prog 52 #[.pointer (some ⟨p, 0, none⟩), x] w (NewTy w (t.sub s)) := by
  have HS := Lib.hid h
  clear h
  induction k with
  | zero => intro t x w hk; rw [ends] at hk; exact hk.elim
  | succ k ih =>
    intro t x w hk hsz hwb ht
    obtain ⟨ao, cap, rfl⟩ := ht.form
    have hwbs := hwb.size
    obtain ⟨w0, hw0⟩ : ∃ w0, w0 = (w.alloc (.cells #[.int .i64 t.op, .int .i64 t.num, .string t.text, .slice ao t.kids.length cap] 40)).alloc (.cells #[.int .i64 0, .int .i64 0, .string ⟨#[]⟩, .slice none 0 0] 40) := ⟨_, rfl⟩
    have hb0 : Below w.heap.size w w0 := by rw [hw0]; exact ((Below.refl _ _).alloc (Nat.le_refl _) _).alloc (by simp) _
    have hs0 : w0.heap.size = w.heap.size + 2 := by rw [hw0]; simp
    have z0 : w0.heap[w.heap.size]? = some (.cells #[.int .i64 t.op, .int .i64 t.num, .string t.text, .slice ao t.kids.length cap] 40 (0, 0)) := by rw [hw0]; exact (heap_alloc_old _ _ (by simp)).trans (heap_alloc_new _ _)
    have z1 : w0.heap[w.heap.size + 1]? = some (.cells #[.int .i64 0, .int .i64 0, .string ⟨#[]⟩, .slice none 0 0] 40 (0, 0)) := by rw [hw0]; exact heap_new2 _ _ _
    have HHD := Lib.hid (refHead_any (hwb.trans (hb0.mono hwbs)) HS.out t _ (ht.below hb0 (fun b hb => by have := hb.1; omega)))
    have HWB := Lib.hid hwb
    have HB0 := Lib.hid hb0
    have HS0 := Lib.hid hs0
    have HW0 := Lib.hid hw0
    have Z0 := Lib.hid z0
    have Z1 := Lib.hid z1
    have HEK := Lib.hid hk
    have HSZ := Lib.hid hsz
    clear ht hb0 hs0 hw0 z0 z1 hk hsz hwb
    unfold tval RHeadEnd at HHD
    unfold tval
    go_enter Tryd.func52, Tryd.ntmps52
    go_upto_region 2 with (go_at_call 49; rw [← HW0.out]; refine HHD.out.mono ?_; clear HHD; rintro e w5 ⟨u, ao5, cap5, rfl, hu, hho, hb5⟩; have z5 := (hb5.block w.heap.size (lt_of_block Z0.out)).trans Z0.out; have z6 := (hb5.block (w.heap.size + 1) (lt_of_block Z1.out)).trans Z1.out; obtain ⟨c0, c1, c2, c3, c4⟩ := hdr4_cells z5; have Z5 := Lib.hid z5; have Z6 := Lib.hid z6; have B5 := Lib.hid hb5; have U5 := Lib.hid hu; have HO := Lib.hid hho; clear z5 z6 hb5 hu hho)
    obtain ⟨z1, z2⟩ := four_ret (y0 := .int .i64 u.op) (y1 := .int .i64 u.num) (y2 := .string u.text) (y3 := .slice ao5 u.kids.length cap5) Z5.out
    generalize ((((World.setCell _ _ _).setCell _ _).setCell _ _).setCell _ _) = wx at z1 z2 ⊢
    have hs5 : w.heap.size + 2 ≤ w5.heap.size := by have := B5.out.size; have := HS0.out; omega
    have hsx := z2.size
    have hbx : Below w.heap.size w wx := (HB0.out.trans (B5.out.mono (by have := HS0.out; omega))).trans (z2.below (B := w.heap.size) (by omega) (by simp))
    have hux : TyIs wx (Rr wb p v) u (tval u ao5 cap5) := U5.out.chg z2 (fun b hb => ⟨by have := hb.1; omega, by have := hb.1; simp; omega⟩)
    have zx := (z2.block (w.heap.size + 1) (by omega) (by simp)).trans Z6.out
    obtain ⟨d0, d1, d2, d3, d4⟩ := hdr4_cells z1
    obtain ⟨e0, e1, e2, e3, e4⟩ := hdr4_cells zx
    have HBX := Lib.hid hbx
    have HUX := Lib.hid hux
    have ZA := Lib.hid z1
    have ZB := Lib.hid zx
    clear z1 z2 zx hbx hux Z5 Z6 B5 U5 c0 c1 c2 c3 c4
    cases u with
    | var m =>
      simp only [Ty.op, Ty.num, Ty.text, Ty.kids] at d0 d1 d2 d3
      have hres : Hid (t.sub s = .var m) := by show _ = _; rw [← HO.out.eq, Ty.sub, HS.out.sol.free m (HO.out.free m rfl)]
      have hwm : Hid ((Lit.int .i64 m).wf = true) := by obtain ⟨_, _, _, _, h, _⟩ := HUX.out.var; exact h
      go_wp2_with (go_at_call 24; refine (refVar_any _ _).mono ?_; rintro e w7 ⟨rfl, hb7⟩; have z7 := (hb7.block (w.heap.size + 1) (lt_of_block ZB.out)).trans ZB.out; obtain ⟨f0, f1, f2, f3, f4⟩ := hdr4_cells z7; have B7 := Lib.hid hb7; have Z7 := Lib.hid z7; clear hb7 z7)
      obtain ⟨z1, z2⟩ := four_ret (y0 := .int .i64 0) (y1 := .int .i64 m) (y2 := .string ⟨#[]⟩) (y3 := .slice none 0 0) Z7.out
      generalize ((((World.setCell _ _ _).setCell _ _).setCell _ _).setCell _ _) = wz at z1 z2 ⊢
      obtain ⟨y0, y1, y2, y3, _⟩ := hdr4_cells z1
      refine bodyPost_ret (v := .agg #[.int .i64 0, .int .i64 m, .string ⟨#[]⟩, .slice none 0 0]) (by simp [results, Tryd.results52, go_sem, y0, y1, y2, y3]) rfl ?_
      rw [hres.out]
      exact ⟨none, 0, rfl, TyIs.mk_var hwm.out, (HBX.out.trans (B7.out.mono HBX.out.size)).trans (z2.below (B := w.heap.size) (by have := B7.out.size; have := HBX.out.size; omega) (by simp))⟩
    | con c l =>
      simp only [Ty.op, Ty.num, Ty.text, Ty.kids] at d0 d1 d2 d3
      have hres : Hid (t.sub s = .con c (l.map (Ty.sub s))) := by show _ = _; rw [← HO.out.eq, Ty.sub_con]
      obtain ⟨ao1, cp1, hv1, hle1, hmx1, hcsz, _, hk1⟩ := HUX.out.con
      have hv1' : Value.slice ao5 l.length cap5 = .slice ao1 l.length cp1 := by
        have := congrArg (fun v => match v with | Value.agg a => a[3]? | _ => none) hv1
        simpa [tval, Ty.kids] using this
      cases hv1'
      unfold maxLen at hmx1
      have HK1 := Lib.hid hk1
      have HCS := Lib.hid hcsz
      have HKE : Hid (∀ t ∈ l, ends k (look L) t) := by
        have := HO.out.ends _ HEK.out
        rw [ends_con] at this
        exact this
      have HKS : Hid (∀ t ∈ l, (t.sub s).sz ≤ 1000) := fun t ht => by
        have h1 := HSZ.out
        rw [hres.out, Ty.sz] at h1
        have := Ty.szs_mem (List.mem_map.2 ⟨t, ht, rfl⟩ : t.sub s ∈ l.map (Ty.sub s))
        omega
      have HLN : Hid (l.length ≤ 1000) := by
        have h1 := HSZ.out
        rw [hres.out, Ty.sz] at h1
        have := Ty.szs_len (l.map (Ty.sub s))
        rw [List.length_map] at this
        show l.length ≤ 1000
        omega
      have x7 := fun o => new_ne' wx d3 o
      clear hv1 hk1 hcsz HUX HO HEK HSZ
      go_wp2
      obtain ⟨W, hW⟩ : ∃ W, W = wx.alloc (.cells #[.int .i64 1, .int .i64 0, .string c, .slice none 0 0] 40) := ⟨_, rfl⟩
      rw [← hW]
      clear x7
      have hbW : Below wx.heap.size wx W := by rw [hW]; exact (Below.refl _ _).alloc (Nat.le_refl _) _
      have SW : Hid (W.heap.size = wx.heap.size + 1) := by show _ = _; rw [hW]; simp
      have ZC : Hid (W.heap[wx.heap.size]? = some (.cells #[.int .i64 1, .int .i64 0, .string c, .slice none 0 0] 40 (0, 0))) := by show _ = _; rw [hW]; exact heap_alloc_new _ _
      have BW := Lib.hid hbW
      have hlA := lt_of_block ZA.out
      have hlB := lt_of_block ZB.out
      clear hW hbW
      have HL : Hid (CopyLoop 40 W wx.heap.size 1 0 c (l.map (Ty.sub s)) l.length (.int .i64 0) W) := ⟨0, .slice none 0 0, rfl, by simp, ZC.out, TRow.nil _ _, Chg.refl _ _⟩
      go_loopg [6] l.length (fun gk s6 wr => CopyLoop 40 W wx.heap.size 1 0 c (l.map (Ty.sub s)) gk s6 wr)
      case atStart => exact HL.out
      case round =>
        clear HL
        obtain ⟨i, v1, rfl, hik, hz, hr, hc⟩ := hrel
        rw [List.length_map] at hik
        have hsW := SW.out
        have hbxs := HBX.out.size
        have hcs := hc.size
        have hA : wr.heap[w.heap.size]? = _ := (hc.block w.heap.size (by omega) (by simp; omega)).trans ((BW.out.block _ hlA).trans ZA.out)
        have hB : wr.heap[w.heap.size + 1]? = _ := (hc.block (w.heap.size + 1) (by omega) (by simp; omega)).trans ((BW.out.block _ hlB).trans ZB.out)
        obtain ⟨li, hli⟩ : ∃ li, li = (l.map (Ty.sub s)).take i := ⟨_, rfl⟩
        rw [← hli] at hr
        have HLI := Lib.hid hli
        clear hli
        obtain ⟨ar, cr, rfl⟩ := hr.form
        simp only [Ty.op, Ty.num, Ty.text, Ty.kids] at hA
        obtain ⟨a0, a1, a2, a3, a4⟩ := hdr4_cells hA
        obtain ⟨b0, b1, b2, b3, b4⟩ := hdr4_cells hB
        obtain ⟨f0, f1, f2, f3, f4⟩ := hdr4_cells hz
        have HB := Lib.hid hB
        have HZ := Lib.hid hz
        have HR := Lib.hid hr
        have HC := Lib.hid hc
        have BWR : Hid (Below w.heap.size w wr) := (HBX.out.trans (BW.out.mono hbxs)).trans (hc.below (by omega) (by simp; omega))
        clear hA hB hz hr hc d0 d1 d2 d3 d4 e0 e1 e2 e3 e4 a0 a1 a2
        have g0 : (0 : Int) ≤ (i : Int) := by omega
        by_cases hlt : i < l.length
        · have g1 : (i : Int) < (l.length : Int) := by omega
          obtain ⟨tk, htk⟩ : ∃ u, l[i]? = some u := ⟨_, List.getElem?_eq_getElem hlt⟩
          obtain ⟨bb, oo, rfl, hbb⟩ := HK1.out.addr htk
          obtain ⟨_, ak, ck, p0, p1, p2, p3, hvk⟩ := HK1.out.cells htk
          rw [Nat.zero_add] at p0 p1 p2 p3
          have hbn : bb < wx.heap.size := by have := hbb.1; omega
          have hbl : Below wx.heap.size wx wr := BW.out.trans (HC.out.below (by omega) (by simp))
          replace p0 := (hbl.cell (p := ⟨bb, oo + i * 4, none⟩) hbn).trans p0
          replace p1 := (hbl.cell (p := ⟨bb, oo + i * 4 + 1, none⟩) hbn).trans p1
          replace p2 := (hbl.cell (p := ⟨bb, oo + i * 4 + 2, none⟩) hbn).trans p2
          replace p3 := (hbl.cell (p := ⟨bb, oo + i * 4 + 3, none⟩) hbn).trans p3
          have hba : Below wr.heap.size wr wr.drew := (Below.refl _ _).drew
          have hvr : TyIs wr (Rr wb p v) tk (tval tk ak ck) := hvk.below hbl (fun b hb => by have := hb.1; omega)
          have HCALL := Lib.hid (ih tk _ wr.drew (HKE.out tk (List.mem_of_getElem? htk)) (HKS.out tk (List.mem_of_getElem? htk)) ((HWB.out.trans (BWR.out.mono hwbs)).trans (hba.mono (by have := BWR.out.size; omega))) (hvr.below hba (fun b hb => by have := hb.1; have := BWR.out.size; omega)))
          have HTK : Hid ((l.map (Ty.sub s))[i]? = some (tk.sub s)) := by show _ = _; rw [List.getElem?_map, htk]; rfl
          have HBA := Lib.hid hba
          have hlen6 : Hid (li.length ≤ 1000) := by show _ ≤ _; rw [HLI.out, List.length_take, List.length_map]; have := HLN.out; omega
          clear hvk htk hba hvr hbn hbl
          unfold tval NewTy at HCALL
          generalize tk.sub s = tr at HCALL HTK
          go_wp2
          go_region_law (first
            | (refine step_callw (w := wr.drew) (by rfl) 52 #[.pointer (some ⟨p, 0, none⟩), .agg #[.int .i64 tk.op, .int .i64 tk.num, .string tk.text, .slice ak tk.kids.length ck]] ?_ HCALL.out ?_; go_simp; rintro e w15 ⟨ao15, cap15, rfl, hv15, hb15⟩; refine ⟨_, rfl, ?_⟩; replace hb15 : Below wr.heap.size wr w15 := HBA.out.trans (hb15.mono HBA.out.size); have hz15 := (hb15.block _ (lt_of_block HZ.out)).trans HZ.out; obtain ⟨q0, q1, q2, q3, q4⟩ := hdr4_cells hz15; have q5 := (fun o => (later_box hz15 o).1.2.2.2); have B15 := Lib.hid hb15; have V15 := Lib.hid hv15; have Z15 := Lib.hid hz15; clear hb15 hv15 hz15)
            | (refine step_appt (w := w15.alloc (.cells #[.int .i64 tr.op, .int .i64 tr.num, .string tr.text, .slice ao15 tr.kids.length cap15] 40)) (by rfl) _ _ 22 40 rfl Tryd.underlying22 infoR (base := W.heap.size) (by rfl) (app_row HR.out B15.out _) (t := tr) (p := (ao15, cap15)) (ad := ⟨w15.heap.size, 0, none⟩) (c := 1) (by rfl) (cell_four_new _ _ _ _ _ _) (app_new HR.out HC.out.size HBA.out.size V15.out _) (by have := HC.out.size; have := B15.out.size; simp; omega) (by have := hlen6.out; omega) ?_; intro g16 cap16 w16 hr16 ht16; have hz16 := app_box ht16 Z15.out HR.out (by have := SW.out; omega); obtain ⟨r0, r1, r2, r3, r4⟩ := hdr4_cells hz16; have R16 := Lib.hid hr16; have T16 := Lib.hid ht16; have Z16 := Lib.hid hz16; clear hr16 ht16 hz16))
          all_goals go_wp2
          all_goals
            go_roundg (gk - 1)
            case measure => omega
            case rel => exact app_next HLI.out HTK.out (by rw [List.length_map]; omega) (by rw [List.length_map]; omega) HC.out HR.out B15.out T16.out R16.out Z16.out (by have := SW.out; omega)
        · obtain rfl : i = l.length := by omega
          have hlieq : Hid (li = l.map (Ty.sub s)) := by show _ = _; rw [HLI.out, List.take_of_length_le (by simp)]
          go_wp2
          obtain ⟨z1, z2⟩ := four_ret (y0 := .int .i64 1) (y1 := .int .i64 0) (y2 := .string c) (y3 := .slice ar li.length cr) HB.out
          generalize ((((World.setCell _ _ _).setCell _ _).setCell _ _).setCell _ _) = wz at z1 z2 ⊢
          obtain ⟨y0, y1, y2, y3, _⟩ := hdr4_cells z1
          refine bodyPost_ret (v := .agg #[.int .i64 1, .int .i64 0, .string c, .slice ar li.length cr]) (by simp [results, Tryd.results52, go_sem, y0, y1, y2, y3]) rfl ?_
          have hr := HR.out
          rw [hlieq.out] at hr
          rw [hres.out, hlieq.out]
          obtain ⟨n1, n2, n3, n4, n5⟩ := app_end hr z2 BWR.out HC.out.size (by have := SW.out; omega)
          exact ⟨ar, cr, rfl, TyIs.mk_con n1 n2 HCS.out n3 n4, n5⟩
end Go.Proofs.YthchkekegkhanaaDoor
/- The reference's Unify, Full, Fresh, said of what variables stand for. -/
namespace Go.Proofs.YthchkekegkhanaaDoor
open Go.RowKit Go.Maps
set_option linter.unusedVariables false

/-- The reference's solver at p, in the blocks F, knows what s says. -/
def RefAt (w : World) (p : Nat) (F : List Nat) (n : Nat) (md : Int) (s : Int → Ty) : Prop := ∃ v pr L, RSolv w p v md pr L s ∧ p :: v.ownBlock.toList = F ∧ L.length ≤ n
section
variable {w w' : World} {p n : Nat} {F : List Nat} {md : Int} {s : Int → Ty}
theorem RefAt.below (h : RefAt w p F n md s) (hb : Below w.heap.size w w') : RefAt w' p F n md s := by
  obtain ⟨v, pr, L, h1, h2, h3⟩ := h
  exact ⟨v, pr, L, h1.below hb, h2, h3⟩
theorem RefAt.lt (h : RefAt w p F n md s) : ∀ k ∈ F, k < w.heap.size := by
  obtain ⟨v, pr, L, h1, rfl, h3⟩ := h
  intro k hk
  rcases List.mem_cons.1 hk with rfl | hk
  · exact lt_of_block h1.hdr
  · obtain ⟨ps, _, h2, _⟩ := h1.row
    exact h2.lt (Option.mem_toList.1 hk)
theorem RefAt.idem (h : RefAt w p F n md s) : Idem s := by
  obtain ⟨v, pr, L, h1, _⟩ := h
  exact h1.sol.idem
end
theorem rr_iff {w : World} {p b : Nat} {v : Value} : Rr w p v b ↔ b < w.heap.size ∧ b ∉ p :: v.ownBlock.toList := by
  unfold Rr
  constructor
  · intro h; exact ⟨h.1, foot_not h⟩
  · intro h
    refine ⟨h.1, fun e => h.2 (by simp [e]), fun e => h.2 (List.mem_cons_of_mem _ (Option.mem_toList.2 e))⟩
/-- Blocks of types: none of F. -/
def Of (w : World) (F : List Nat) : Nat → Prop := fun b => b < w.heap.size ∧ b ∉ F
def RUniEnd (w : World) (p : Nat) (F : List Nat) (n : Nat) (md : Int) (r : Int × (Int → Ty)) (e : Ending) (w' : World) : Prop :=
  e = .returned (.int .i64 r.1) ∧ ∃ F', RefAt w' p F' (n + 10000) md r.2 ∧ Chg F w w' ∧ Within F F' w.heap.size
set_option maxRecDepth 100000 in
set_option maxHeartbeats 1600000 in
theorem refUnify_any {w : World} {p n : Nat} {F : List Nat} {md : Int} {s : Int → Ty} (h : RefAt w p F n md s) (hn : n < 10000000) (a b : Ty) (va vb : Value) (ha : TyIs w (Of w F) a va) (hb : TyIs w (Of w F) b vb) :
    Calls Tryd.prog 18 #[.pointer (some ⟨p, 0, none⟩), va, vb] w (RUniEnd w p F n md (uni s a b)) := by
  obtain ⟨v, pr, L, h, rfl, hL⟩ := h
  obtain ⟨aoa, capa, rfl⟩ := ha.form
  obtain ⟨aob, capb, rfl⟩ := hb.form
  have hlp := lt_of_block h.hdr
  replace ha : TyIs w (Rr w p v) a (tval a aoa capa) := ha.mono fun b hb => rr_iff.2 hb
  replace hb : TyIs w (Rr w p v) b (tval b aob capb) := hb.mono fun b hb => rr_iff.2 hb
  obtain ⟨w0, hw0⟩ : ∃ w0, w0 = (w.alloc (.cells #[.int .i64 a.op, .int .i64 a.num, .string a.text, .slice aoa a.kids.length capa] 40)).alloc (.cells #[.int .i64 b.op, .int .i64 b.num, .string b.text, .slice aob b.kids.length capb] 40) := ⟨_, rfl⟩
  have hb0 : Below w.heap.size w w0 := by rw [hw0]; exact ((Below.refl _ _).alloc (Nat.le_refl _) _).alloc (by simp) _
  have z0 : w0.heap[w.heap.size]? = some (.cells #[.int .i64 a.op, .int .i64 a.num, .string a.text, .slice aoa a.kids.length capa] 40 (0, 0)) := by rw [hw0]; exact (heap_alloc_old _ _ (by simp)).trans (heap_alloc_new _ _)
  have z1 : w0.heap[w.heap.size + 1]? = some (.cells #[.int .i64 b.op, .int .i64 b.num, .string b.text, .slice aob b.kids.length capb] 40 (0, 0)) := by rw [hw0]; exact heap_new2 _ _ _
  have hsv := h.below hb0
  obtain ⟨e0, e1, e2, e3⟩ := hdr3_cells hsv.hdr
  obtain ⟨hsv1, hc1⟩ := hsv.count 0 (10000 - ((10000 : Nat) : Int)) (by omega)
  have hst1 : RStep p w0 v (w0.setCell ⟨p, 2, none⟩ (.int .i64 0)) v := ⟨hc1.mono (by simp), .inl rfl⟩
  have hta := (ha.rr hb0).stepped hst1
  have htb := (hb.rr hb0).stepped hst1
  have za := (hc1.block w.heap.size (lt_of_block z0) (by simp; omega)).trans z0
  have zb := (hc1.block (w.heap.size + 1) (lt_of_block z1) (by simp; omega)).trans z1
  have hcw : RStep p w v (w0.setCell ⟨p, 2, none⟩ (.int .i64 0)) v := (RStep.made v hb0).trans hst1
  unfold tval
  go_enter Tryd.func18, Tryd.ntmps18
  go_upto_region 1 with fail
  rw [← hw0]
  clear hw0 h ha hb hb0 hsv z0 z1 hc1 hst1
  go_upto_region 2 with fail
  generalize (w0.setCell ⟨p, 2, none⟩ (.int .i64 0)) = W1 at hsv1 hta htb za zb hcw ⊢
  have HPA := Lib.hid (refPair_walk 10001 10000 a b _ _ W1 v L s (by omega) (Nat.le_refl _) (by omega) hsv1 hta htb)
  unfold tval RPairEnd at HPA
  obtain ⟨c0, c1, c2, c3, c4⟩ := hdr4_cells za
  obtain ⟨d0, d1, d2, d3, d4⟩ := hdr4_cells zb
  have HCW := Lib.hid hcw
  clear hsv1 hta htb za zb hcw e0 e1 e2 e3
  go_wp2_with (go_at_call 37; refine HPA.out.mono ?_; clear HPA; rintro e w9 ⟨v9, L9, rfl, hsv9, hn9, hc9⟩; have HSV9 := Lib.hid hsv9; have HN9 := Lib.hid hn9; have HC9 := Lib.hid hc9; clear hsv9 hn9 hc9)
  go_ret
  have hst := HCW.out.trans HC9.out
  refine ⟨rfl, p :: v9.ownBlock.toList, ⟨v9, _, L9, HSV9.out, rfl, by have := HN9.out; omega⟩, hst.1, fun k hk => ?_⟩
  rcases List.mem_cons.1 hk with rfl | hk
  · exact .inl (by simp)
  · have hk' := Option.mem_toList.1 hk
    rcases hst.2 with e | ⟨j, e, hj⟩
    · rw [e] at hk'; exact .inl (List.mem_cons_of_mem _ (Option.mem_toList.2 hk'))
    · rw [e] at hk'; cases hk'; exact .inr hj
set_option maxRecDepth 100000 in
set_option maxHeartbeats 1600000 in
theorem refFull_yes {w : World} {p n : Nat} {F : List Nat} {md : Int} {s : Int → Ty} (h : RefAt w p F n md s) (t : Ty) (x : Value) (ht : TyIs w (Of w F) t x) (hsz : (t.sub s).sz ≤ 1000) :
    Calls Tryd.prog 38 #[.pointer (some ⟨p, 0, none⟩), x] w (YesEnd w (t.sub s)) := by
  obtain ⟨v, pr, L, h, rfl, hL⟩ := h
  obtain ⟨ao, cap, rfl⟩ := ht.form
  replace ht : TyIs w (Rr w p v) t (tval t ao cap) := ht.mono fun b hb => rr_iff.2 hb
  obtain ⟨K, hK⟩ := h.sol.all t
  obtain ⟨w0, hw0⟩ : ∃ w0, w0 = (w.alloc (.cells #[.int .i64 t.op, .int .i64 t.num, .string t.text, .slice ao t.kids.length cap] 40)).alloc (.cells #[.int .i64 0, .int .i64 0, .string ⟨#[]⟩, .slice none 0 0] 40) := ⟨_, rfl⟩
  have hb0 : Below w.heap.size w w0 := by rw [hw0]; exact ((Below.refl _ _).alloc (Nat.le_refl _) _).alloc (by simp) _
  have hs0 : w0.heap.size = w.heap.size + 2 := by rw [hw0]; simp
  have z0 : w0.heap[w.heap.size]? = some (.cells #[.int .i64 t.op, .int .i64 t.num, .string t.text, .slice ao t.kids.length cap] 40 (0, 0)) := by rw [hw0]; exact (heap_alloc_old _ _ (by simp)).trans (heap_alloc_new _ _)
  have z1 : w0.heap[w.heap.size + 1]? = some (.cells #[.int .i64 0, .int .i64 0, .string ⟨#[]⟩, .slice none 0 0] 40 (0, 0)) := by rw [hw0]; exact heap_new2 _ _ _
  have HSZ := Lib.hid (size_walk h K t _ w0 0 hK hb0 (ht.below hb0 (fun b hb => hb.1)) (by omega) (by omega))
  have HF : Hid (∀ W, Below w.heap.size w W → Calls Tryd.prog 52 #[.pointer (some ⟨p, 0, none⟩), tval t ao cap] W (NewTy W (t.sub s))) := fun W hW => refFull_walk h K t _ W hK hsz hW (ht.below hW (fun b hb => hb.1))
  have HW0 := Lib.hid hw0
  have HB0 := Lib.hid hb0
  have HS0 := Lib.hid hs0
  have Z0 := Lib.hid z0
  have Z1 := Lib.hid z1
  have hc := (cnt_big (t.sub s)).2 hsz
  have hc' : ¬ 1000 < Ty.cnt (t.sub s) 0 := by omega
  clear h ht hb0 hs0 hw0 z0 z1 hK hsz
  unfold SizeEnd tval at HSZ
  unfold NewTy tval at HF
  unfold tval
  generalize Ty.cnt (t.sub s) 0 = z at HSZ hc hc'
  generalize t.sub s = y at *
  go_enter Tryd.func38, Tryd.ntmps38
  go_wp2_with (first
    | (go_at_call 51; rw [← HW0.out]; refine HSZ.out.mono ?_; clear HSZ; rintro e w5 ⟨rfl, hb5⟩; have z5 := (hb5.block w.heap.size (lt_of_block Z0.out)).trans Z0.out; obtain ⟨c0, c1, c2, c3, c4⟩ := hdr4_cells z5; have B5 := Lib.hid hb5; clear hb5 z5)
    | (go_at_call 52; refine (HF.out w5 (HB0.out.trans (B5.out.mono HB0.out.size))).mono ?_; clear HF; rintro e w7 ⟨ao7, cap7, rfl, hv7, hb7⟩; have z7 := (hb7.block _ (Nat.lt_of_lt_of_le (lt_of_block Z1.out) B5.out.size)).trans ((B5.out.block _ (lt_of_block Z1.out)).trans Z1.out); obtain ⟨d0, d1, d2, d3, d4⟩ := hdr4_cells z7; have Z7 := Lib.hid z7; have B7 := Lib.hid hb7; have V7 := Lib.hid hv7; clear hb7 hv7 z7))
  obtain ⟨z1, z2⟩ := four_ret (y0 := .int .i64 y.op) (y1 := .int .i64 y.num) (y2 := .string y.text) (y3 := .slice ao7 y.kids.length cap7) Z7.out
  generalize ((((World.setCell _ _ _).setCell _ _).setCell _ _).setCell _ _) = wz at z1 z2 ⊢
  obtain ⟨y0, y1, y2, y3, _⟩ := hdr4_cells z1
  refine bodyPost_ret (v := .tuple #[.agg #[.int .i64 y.op, .int .i64 y.num, .string y.text, .slice ao7 y.kids.length cap7], .int .i64 0]) (by simp [results, Tryd.results38, go_sem, y0, y1, y2, y3]) rfl ?_
  have h1 := B5.out.size
  have h2 := HS0.out
  have h3 := B7.out.size
  refine ⟨ao7, cap7, rfl, (V7.out.chg z2 (fun b hb => ⟨hb.2, by have := hb.1; simp; omega⟩)).mono (fun b hb => ⟨by have := hb.1; omega, Nat.lt_of_lt_of_le hb.2 z2.size⟩), ?_⟩
  exact ((HB0.out.trans (B5.out.mono (by omega))).trans (B7.out.mono (by omega))).trans (z2.below (B := w.heap.size) (by omega) (by simp))
set_option maxRecDepth 100000 in
set_option maxHeartbeats 1600000 in
theorem refFull_no {w : World} {p n : Nat} {F : List Nat} {md : Int} {s : Int → Ty} (h : RefAt w p F n md s) (t : Ty) (x : Value) (ht : TyIs w (Of w F) t x) (hsz : ¬ (t.sub s).sz ≤ 1000) :
    Calls Tryd.prog 38 #[.pointer (some ⟨p, 0, none⟩), x] w (NoEnd w 4) := by
  obtain ⟨v, pr, L, h, rfl, hL⟩ := h
  obtain ⟨ao, cap, rfl⟩ := ht.form
  replace ht : TyIs w (Rr w p v) t (tval t ao cap) := ht.mono fun b hb => rr_iff.2 hb
  obtain ⟨K, hK⟩ := h.sol.all t
  obtain ⟨w0, hw0⟩ : ∃ w0, w0 = (w.alloc (.cells #[.int .i64 t.op, .int .i64 t.num, .string t.text, .slice ao t.kids.length cap] 40)).alloc (.cells #[.int .i64 0, .int .i64 0, .string ⟨#[]⟩, .slice none 0 0] 40) := ⟨_, rfl⟩
  have hb0 : Below w.heap.size w w0 := by rw [hw0]; exact ((Below.refl _ _).alloc (Nat.le_refl _) _).alloc (by simp) _
  have hs0 : w0.heap.size = w.heap.size + 2 := by rw [hw0]; simp
  have z1 : w0.heap[w.heap.size + 1]? = some (.cells #[.int .i64 0, .int .i64 0, .string ⟨#[]⟩, .slice none 0 0] 40 (0, 0)) := by rw [hw0]; exact heap_new2 _ _ _
  have HSZ := Lib.hid (size_walk h K t _ w0 0 hK hb0 (ht.below hb0 (fun b hb => hb.1)) (by omega) (by omega))
  have HW0 := Lib.hid hw0
  have HB0 := Lib.hid hb0
  have HS0 := Lib.hid hs0
  have Z1 := Lib.hid z1
  have hc : ¬ Ty.cnt (t.sub s) 0 ≤ 1000 := fun e => hsz ((cnt_big (t.sub s)).1 e)
  have hc' : 1000 < Ty.cnt (t.sub s) 0 := by omega
  have hcz := (Ty.cnt_all (t.sub s).sz (t.sub s) 0 (Nat.le_refl _) (by omega) (by omega)).2.1
  clear h ht hb0 hs0 hw0 z1 hK hsz
  unfold SizeEnd tval at HSZ
  unfold tval
  generalize Ty.cnt (t.sub s) 0 = z at HSZ hc hc' hcz
  go_enter Tryd.func38, Tryd.ntmps38
  go_wp2_with (go_at_call 51; rw [← HW0.out]; refine HSZ.out.mono ?_; clear HSZ; rintro e w5 ⟨rfl, hb5⟩; have z5 := (hb5.block (w.heap.size + 1) (lt_of_block Z1.out)).trans Z1.out; obtain ⟨c0, c1, c2, c3, c4⟩ := hdr4_cells z5; have B5 := Lib.hid hb5; have Z5 := Lib.hid z5; clear hb5 z5)
  obtain ⟨z1, z2⟩ := four_ret (y0 := .int .i64 0) (y1 := .int .i64 0) (y2 := .string ⟨#[]⟩) (y3 := .slice none 0 0) Z5.out
  generalize ((((World.setCell _ _ _).setCell _ _).setCell _ _).setCell _ _) = wz at z1 z2 ⊢
  obtain ⟨y0, y1, y2, y3, _⟩ := hdr4_cells z1
  refine bodyPost_ret (v := .tuple #[.agg #[.int .i64 0, .int .i64 0, .string ⟨#[]⟩, .slice none 0 0], .int .i64 4]) (by simp [results, Tryd.results38, go_sem, y0, y1, y2, y3]) rfl ?_
  have h1 := B5.out.size
  have h2 := HS0.out
  exact ⟨rfl, (HB0.out.trans (B5.out.mono (by omega))).trans (z2.below (B := w.heap.size) (by omega) (by simp))⟩
end Go.Proofs.YthchkekegkhanaaDoor
