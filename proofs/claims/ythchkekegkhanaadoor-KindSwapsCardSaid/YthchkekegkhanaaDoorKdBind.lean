/- The program's visit: through a type's parts, in full, until a function says no. -/
import Derived.Test.YthchkekegkhanaaDoorKdHead
import Derived.Deep.Upon
import Derived.StillTailTactics
namespace Go.Proofs.YthchkekegkhanaaDoor
open Go.RowKit Go.Maps
set_option linter.unusedVariables false
variable {R : Nat → Prop}

namespace Ty
/-- A variable's number. -/
def top : Ty → Option Int | var n => some n | con _ _ => none
mutual
def vis (ok : Int → Option Int → Bool) (nx : Int → Int) : Ty → Int → Bool × Int
  | var n, z => (ok z (some n), nx z)
  | con _ l, z => if ok z none then viss ok nx l (nx z) else (false, nx z)
def viss (ok : Int → Option Int → Bool) (nx : Int → Int) : List Ty → Int → Bool × Int
  | [], z => (true, z)
  | t :: l, z => if (vis ok nx t z).1 then viss ok nx l (vis ok nx t z).2 else (false, (vis ok nx t z).2)
end
end Ty

/-- What is known of a function that is handed in. -/
structure Asks (R : Nat → Prop) (C : List Nat) (N p bm : Nat) (w0 : World) (g : FuncId) (lb : Array Value) (ok : Int → Option Int → Bool) (nx : Int → Int) (G : Int → World → Prop) : Prop where
  enter : ∀ args w, (callFunc g args).run Tryd.prog w = .ok (.enter g args) w
  inC : ∀ k ∈ C, N ≤ k ∧ k < w0.heap.size
  keep : ∀ z W W' F, G z W → Chg F W W' → (∀ k ∈ F, k ∉ C) → w0.heap.size ≤ W.heap.size → G z W'
  call : ∀ (z : Int) (W : World) (u : Ty) (ao : Option Addr) (cap : Nat), G z W → Chg C w0 W → TyIs W (Tr R N p bm) u (tval u ao cap) → Calls Tryd.prog g (#[tval u ao cap] ++ lb) W fun e w' => e = .returned (.bool (ok z u.top)) ∧ G (nx z) w' ∧ Chg C W w'
def VisEnd (C : List Nat) (G : Int → World → Prop) (w : World) (r : Bool × Int) (e : Ending) (w' : World) : Prop := e = .returned (.bool r.1) ∧ G r.2 w' ∧ Chg C w w'
def VisLoop (C : List Nat) (G : Int → World → Prop) (ok : Int → Option Int → Bool) (nx : Int → Int) (s : Int → Ty) (W : World) (l : List Ty) (z1 : Int) (gk : Nat) (s22 : Value) (wr : World) : Prop :=
  ∃ (i : Nat) (z : Int), s22 = .int .i64 i ∧ i + gk = l.length ∧ G z wr ∧ Ty.viss ok nx (l.map (Ty.sub s)) z1 = Ty.viss ok nx ((l.drop i).map (Ty.sub s)) z ∧ Chg C W wr

set_option maxRecDepth 100000 in
set_option maxHeartbeats 1600000 in
theorem visit_walk {C : List Nat} {p bm N n : Nat} {fr pr : Int} {σ : Int → Option Ty} {s : Int → Ty} {w0 : World} {g : FuncId} {lb : Array Value} {ok : Int → Option Int → Bool} {nx : Int → Int} {G : Int → World → Prop} (h : Solv R w0 p bm N n fr pr σ s) (ha : Asks R C N p bm w0 g lb ok nx G) (k : Nat) :
    ∀ (t : Ty) (v : Value) (w : World) (z : Int), ends k σ t → TyIs w (Tr R N p bm) t v → Chg C w0 w → G z w →
    Calls Tryd.prog 45 #[.pointer (some ⟨p, 0, none⟩), v, .func (.func g) #[] lb] w (VisEnd C G w (Ty.vis ok nx (t.sub s) z)) := by
  induction k with
  | zero => intro t v w z hk; rw [ends] at hk; exact hk.elim
  | succ k ih =>
    intro t v w z hk ht hc hg
    obtain ⟨ao, cap, rfl⟩ := ht.form
    have eg := ha.enter
    have HA := Lib.hid ha
    have HS := Lib.hid h
    have hN := h.hN
    have hcs := hc.size
    have HC := Lib.hid hc
    have HG := Lib.hid hg
    have hb1 : Below w.heap.size w (w.alloc (.cells #[.int .i64 t.op, .int .i64 t.num, .string t.text, .slice ao t.kids.length cap] 25)) := (Below.refl _ _).alloc (Nat.le_refl _) _
    have hsv := h.below ((hc.below hN (fun k hk => (ha.inC k hk).1)).trans (hb1.mono (by omega)))
    have HHD := Lib.hid (head_any hsv t _ (ht.below hb1 (fun b hb => by have := hb.1; omega)))
    have HEK := Lib.hid hk
    clear h ha hc hg hb1 ht hsv hk
    unfold tval HeadEnd at HHD
    unfold tval
    go_enter Tryd.func45, Tryd.ntmps45
    go_upto_region 2 with (go_at_call 47; refine HHD.out.mono ?_; clear HHD; rintro e w5 ⟨u, ao5, cap5, rfl, hu, hho, hb5⟩; have z5 := (hb5.block w.heap.size (by simp)).trans (heap_alloc_new w _); obtain ⟨c0, c1, c2, c3, c4⟩ := hdr4_cells z5; have Z5 := Lib.hid z5; have B5 := Lib.hid hb5; have U5 := Lib.hid hu; have HO := Lib.hid hho; clear z5 hb5 hu hho)
    obtain ⟨z1, z2⟩ := four_ret (y0 := .int .i64 u.op) (y1 := .int .i64 u.num) (y2 := .string u.text) (y3 := .slice ao5 u.kids.length cap5) Z5.out
    generalize ((((World.setCell _ _ _).setCell _ _).setCell _ _).setCell _ _) = wx at z1 z2 ⊢
    have hbx : Below w.heap.size w wx := (((Below.refl _ _).alloc (Nat.le_refl _) _).trans (B5.out.mono (by simp))).trans (z2.below (B := w.heap.size) (by have := B5.out.size; simp at this; omega) (by simp))
    have hux : TyIs wx (Tr R N p bm) u (tval u ao5 cap5) := U5.out.chg z2 (fun b hb => ⟨by have := hb.1; have := B5.out.size; simp at this; omega, by have := hb.1; simp; omega⟩)
    have HCX : Hid (Chg C w0 wx) := HC.out.trans (below_chg hbx) (fun k hk => by simp at hk)
    have HGX : Hid (G z wx) := HA.out.keep z w wx [] HG.out (below_chg hbx) (by simp) hcs
    have HCALL := Lib.hid (HA.out.call z wx u ao5 cap5 HGX.out HCX.out hux)
    have HBX := Lib.hid hbx
    have HUX := Lib.hid hux
    obtain ⟨d0, d1, d2, d3, d4⟩ := hdr4_cells z1
    have ZX := Lib.hid z1
    clear z1 z2 Z5 B5 U5 hbx hux c0 c1 c2 c3 c4
    unfold tval at HCALL
    obtain ⟨b, hb⟩ : ∃ b, ok z u.top = b := ⟨_, rfl⟩
    rw [hb] at HCALL
    have HB := Lib.hid hb
    clear hb
    cases b
    · go_wp2_with (fail)
      refine HCALL.out.mono ?_
      rintro e w7 ⟨rfl, hg7, hc7⟩
      have HG7 := Lib.hid hg7
      have HC7 := Lib.hid hc7
      clear hg7 hc7
      go_wp2
      go_ret
      have hv : Hid (Ty.vis ok nx (t.sub s) z = (false, nx z)) := by
        show _ = _
        rw [← HO.out.eq]
        have hb := HB.out
        cases u with
        | var m => rw [Ty.sub, HS.out.sol.free m (HO.out.free m rfl), Ty.vis]; rw [Ty.top] at hb; rw [hb]
        | con c l => rw [Ty.sub_con, Ty.vis]; rw [Ty.top] at hb; rw [hb]; simp
      rw [hv.out]
      exact ⟨rfl, HG7.out, (below_chg HBX.out).mono (fun k hk => by simp at hk) |>.trans HC7.out (fun k hk => .inl hk)⟩
    · go_wp2_with (fail)
      refine HCALL.out.mono ?_
      rintro e w7 ⟨rfl, hg7, hc7⟩
      have hnc : w.heap.size ∉ C := fun hm => by have := (HA.out.inC _ hm).2; omega
      have z7 := (hc7.block _ (lt_of_block ZX.out) hnc).trans ZX.out
      obtain ⟨e0, e1, e2, e3, e4⟩ := hdr4_cells z7
      have HG7 := Lib.hid hg7
      have HCW : Hid (Chg C w w7) := ((below_chg HBX.out).mono (F' := C) (fun k hk => by simp at hk)).trans hc7 (fun k hk => .inl hk)
      have HC7 : Hid (Chg C w0 w7) := HC.out.trans HCW.out (fun k hk => .inl hk)
      have HU7 : Hid (TyIs w7 (Tr R N p bm) u (tval u ao5 cap5)) := HUX.out.chg hc7 (fun b hb => ⟨by have := hb.1; have := HBX.out.size; omega, fun hm => by have := (HA.out.inC _ hm).1; have := hb.1; omega⟩)
      have Z7 := Lib.hid z7
      clear hg7 hc7 d0 d1 d2 d3 d4 z7 ZX HUX HCX HGX HBX HCALL hnc
      cases u with
      | var m =>
        simp only [Ty.op, Ty.num, Ty.text, Ty.kids] at e0 e1 e2 e3
        go_wp2
        go_ret
        have hv : Hid (Ty.vis ok nx (t.sub s) z = (true, nx z)) := by
          show _ = _
          rw [← HO.out.eq, Ty.sub, HS.out.sol.free m (HO.out.free m rfl), Ty.vis]
          have hb := HB.out
          rw [Ty.top] at hb
          rw [hb]
        rw [hv.out]
        exact ⟨rfl, HG7.out, HCW.out⟩
      | con c l =>
        simp only [Ty.op, Ty.num, Ty.text, Ty.kids] at e0 e1 e2 e3
        have HV : Hid (Ty.vis ok nx (t.sub s) z = Ty.viss ok nx (l.map (Ty.sub s)) (nx z)) := by
          show _ = _
          rw [← HO.out.eq, Ty.sub_con, Ty.vis]
          have hb := HB.out
          rw [Ty.top] at hb
          rw [hb, if_pos rfl]
        have HKE : Hid (∀ t ∈ l, ends k σ t) := by
          have := HO.out.ends _ HEK.out
          rw [ends_con] at this
          exact this
        obtain ⟨ao6, cap6, hval, hle, hmx, _, _, hkl⟩ := HU7.out.con
        have hval' : Value.slice ao5 l.length cap5 = .slice ao6 l.length cap6 := by
          have := congrArg (fun v => match v with | Value.agg a => a[3]? | _ => none) hval
          simpa [tval, Ty.kids] using this
        cases hval'
        unfold maxLen at hmx
        have HKL := Lib.hid hkl
        clear hval hkl HU7 HB HO HEK
        have HL : Hid (VisLoop C G ok nx s w7 l (nx z) l.length (.int .i64 0) w7) := ⟨0, nx z, rfl, by omega, HG7.out, rfl, Chg.refl _ _⟩
        go_wp2
        go_loopg [22] l.length (fun gk s22 wr => VisLoop C G ok nx s w7 l (nx z) gk s22 wr)
        case atStart => exact HL.out
        case round =>
          clear HL HG7
          obtain ⟨i, zi, rfl, hik, hg, hvs, hc⟩ := hrel
          have HGI := Lib.hid hg
          have HVS := Lib.hid hvs
          have HCI := Lib.hid hc
          have HCR : Hid (Chg C w0 wr) := HC7.out.trans hc (fun k hk => .inl hk)
          clear hg hvs hc
          have g0 : (0 : Int) ≤ (i : Int) := by omega
          by_cases hlt : i < l.length
          · have g1 : (i : Int) < (l.length : Int) := by omega
            obtain ⟨tk, htk⟩ : ∃ u, l[i]? = some u := ⟨_, List.getElem?_eq_getElem hlt⟩
            obtain ⟨bb, oo, rfl, hbb⟩ := HKL.out.addr htk
            obtain ⟨_, ak, ck, p0, p1, p2, p3, hvk⟩ := HKL.out.cells htk
            rw [Nat.zero_add] at p0 p1 p2 p3
            have hbn : bb < w7.heap.size ∧ bb ∉ C := ⟨by have := hbb.1; have := HCW.out.size; omega, fun hm => by have := (HA.out.inC _ hm).1; have := hbb.1; omega⟩
            replace p0 := (HCI.out.cell (p := ⟨bb, oo + i * 4, none⟩) hbn.1 hbn.2).trans p0
            replace p1 := (HCI.out.cell (p := ⟨bb, oo + i * 4 + 1, none⟩) hbn.1 hbn.2).trans p1
            replace p2 := (HCI.out.cell (p := ⟨bb, oo + i * 4 + 2, none⟩) hbn.1 hbn.2).trans p2
            replace p3 := (HCI.out.cell (p := ⟨bb, oo + i * 4 + 3, none⟩) hbn.1 hbn.2).trans p3
            have hba : Below wr.heap.size wr (wr.alloc (.cells #[.int .i64 tk.op, .int .i64 tk.num, .string tk.text, .slice ak tk.kids.length ck] 25)) := (Below.refl _ _).alloc (Nat.le_refl _) _
            have hvr : TyIs wr (Tr R N p bm) tk (tval tk ak ck) := hvk.chg HCI.out (fun b hb => ⟨by have := hb.1; have := HCW.out.size; omega, fun hm => by have := (HA.out.inC _ hm).1; have := hb.1; omega⟩)
            have hcr := HCR.out.size
            have HCALL := Lib.hid (ih tk _ (wr.alloc (.cells #[.int .i64 tk.op, .int .i64 tk.num, .string tk.text, .slice ak tk.kids.length ck] 25)) zi (HKE.out tk (List.mem_of_getElem? htk)) (hvr.below hba (fun b hb => by have := hb.1; omega)) (HCR.out.alloc _) (HA.out.keep zi wr _ [] HGI.out (below_chg hba) (by simp) hcr))
            have HDR : Hid (Ty.viss ok nx ((l.drop i).map (Ty.sub s)) zi = if (Ty.vis ok nx (tk.sub s) zi).1 then Ty.viss ok nx ((l.drop (i + 1)).map (Ty.sub s)) (Ty.vis ok nx (tk.sub s) zi).2 else (false, (Ty.vis ok nx (tk.sub s) zi).2)) := by
              show _ = _
              rw [List.drop_eq_getElem_cons hlt, show l[i] = tk from Option.some.inj ((List.getElem?_eq_getElem hlt).symm.trans htk), List.map_cons, Ty.viss]
            clear hvk htk hba hvr hbn
            unfold tval VisEnd at HCALL
            generalize Ty.vis ok nx (tk.sub s) zi = r at HCALL HDR
            obtain ⟨b, z2⟩ := r
            simp only at HCALL HDR
            cases b
            · go_wp2_with (go_at_call 45; refine HCALL.out.mono ?_; clear HCALL; rintro e w9 ⟨rfl, hg9, hc9⟩; have HG9 := Lib.hid hg9; have HC9 := Lib.hid hc9; clear hg9 hc9)
              go_ret
              rw [HV.out, HVS.out, HDR.out]
              exact ⟨rfl, HG9.out, (HCW.out.trans (HCI.out.alloc _) (fun k hk => .inl hk)).trans HC9.out (fun k hk => .inl hk)⟩
            · go_wp2_with (go_at_call 45; refine HCALL.out.mono ?_; clear HCALL; rintro e w9 ⟨rfl, hg9, hc9⟩; have HG9 := Lib.hid hg9; have HC9 := Lib.hid hc9; clear hg9 hc9)
              go_roundg (gk - 1)
              case measure => omega
              case rel => exact ⟨i + 1, z2, by go_num, by omega, HG9.out, by rw [HVS.out, HDR.out]; simp, (HCI.out.alloc _).trans HC9.out (fun k hk => .inl hk)⟩
          · obtain rfl : i = l.length := by omega
            go_wp2
            go_ret
            rw [HV.out, HVS.out, List.drop_length, List.map_nil, Ty.viss]
            exact ⟨rfl, HGI.out, HCW.out.trans HCI.out (fun k hk => .inl hk)⟩
end Go.Proofs.YthchkekegkhanaaDoor
/- The program's small and bind. -/
namespace Go.Proofs.YthchkekegkhanaaDoor
open Go.RowKit Go.Maps
set_option linter.unusedVariables false
variable {R : Nat → Prop}

def okS (z : Int) (_ : Option Int) : Bool := decide (wrap64 (z + 1) ≤ 1000)
def nxS (z : Int) : Int := wrap64 (z + 1)
namespace Ty
theorem w64 {z : Int} (h0 : -1000000 ≤ z) (h1 : z ≤ 1000000) : wrap64 z = z := by unfold wrap64; omega
theorem visS : ∀ (k : Nat) (t : Ty) (z : Int), t.sz ≤ k → 0 ≤ z → z ≤ 1000 → (z + t.sz ≤ 1000 → vis okS nxS t z = (true, z + t.sz)) ∧ (1000 < z + t.sz → (vis okS nxS t z).1 = false)
  | 0, t, z, h, _, _ => by have := t.sz_pos; omega
  | k + 1, var n, z, h, h0, h1 => by
    rw [vis, sz]
    unfold okS nxS
    rw [w64 (by omega) (by omega)]
    refine ⟨fun h => ?_, fun h => ?_⟩
    · rw [decide_eq_true (by omega)]; rfl
    · simp; omega
  | k + 1, con c l, z, h, h0, h1 => by
    rw [sz] at h
    have hl : ∀ (l : List Ty) (z : Int), szs l ≤ k → 0 ≤ z → z ≤ 1000 → (z + szs l ≤ 1000 → viss okS nxS l z = (true, z + szs l)) ∧ (1000 < z + szs l → (viss okS nxS l z).1 = false) := by
      intro l
      induction l with
      | nil => intro z _ a b; rw [viss, szs]; exact ⟨fun _ => by simp, fun h => by simp at h; omega⟩
      | cons t l ih =>
        intro z hk a b
        rw [szs] at hk ⊢
        rw [viss]
        obtain ⟨i1, i2⟩ := visS k t z (by omega) a b
        by_cases ht : z + t.sz ≤ 1000
        · rw [i1 ht]
          obtain ⟨j1, j2⟩ := ih (z + t.sz) (by omega) (by omega) ht
          simp only [if_true]
          refine ⟨fun h => ?_, fun h => j2 (by omega)⟩
          rw [j1 (by omega)]
          congr 1
          omega
        · have := i2 (by omega)
          rw [this]
          exact ⟨fun h => by omega, fun _ => by simp⟩
    rw [vis, sz]
    unfold okS nxS
    rw [w64 (by omega) (by omega)]
    by_cases hz : z + 1 ≤ 1000
    · rw [decide_eq_true hz, if_pos rfl]
      obtain ⟨j1, j2⟩ := hl l (z + 1) (by omega) (by omega) hz
      refine ⟨fun h => ?_, fun h => j2 (by omega)⟩
      have := j1 (by omega)
      unfold okS nxS at this
      rw [this]
      congr 1
      omega
    · rw [decide_eq_false hz]
      exact ⟨fun h => by omega, fun _ => by simp⟩
theorem vis_small (t : Ty) : (vis okS nxS t 0).1 = decide (t.sz ≤ 1000) := by
  obtain ⟨h1, h2⟩ := visS t.sz t 0 (Nat.le_refl _) (by omega) (by omega)
  by_cases h : t.sz ≤ 1000
  · rw [h1 (by omega), decide_eq_true h]
  · rw [h2 (by omega), decide_eq_false h]
def okB (m : Int) (_ : Int) (o : Option Int) : Bool := o != some m
theorem visB (m : Int) : ∀ (k : Nat) (t : Ty) (z : Int), t.sz ≤ k → vis (okB m) id t z = (!has m t, z)
  | 0, t, z, h => by have := t.sz_pos; omega
  | k + 1, var n, z, h => by
    rw [vis, has, okB]
    by_cases e : n = m
    · subst e; simp
    · have e1 : (some n != some m) = true := by simpa using e
      have e2 : (n == m) = false := by simpa using e
      rw [e1, e2]; rfl
  | k + 1, con c l, z, h => by
    rw [sz] at h
    have hl : ∀ (l : List Ty), szs l ≤ k → viss (okB m) id l z = (!hass m l, z) := by
      intro l
      induction l with
      | nil => intro _; rw [viss, hass]; rfl
      | cons t l ih =>
        intro hk
        rw [szs] at hk
        rw [viss, visB m k t z (by omega), hass]
        cases ht : has m t
        · simp [ih (by omega)]
        · simp
    rw [vis, has, okB]
    simpa using hl l (by omega)
theorem vis_has (m : Int) (t : Ty) (z : Int) : (vis (okB m) id t z).1 = !has m t := by rw [visB m t.sz t z (Nat.le_refl _)]
end Ty

def Cnt (c : Nat) (z : Int) (W : World) : Prop := W.cell? ⟨c, 0, none⟩ = some (.int .i64 z) ∧ W.frozen? ⟨c, 0, none⟩ = false
theorem cnt_keep {c : Nat} {w0 : World} (hc : c < w0.heap.size) : ∀ z W W' F, Cnt c z W → Chg F W W' → (∀ k ∈ F, k ∉ [c]) → w0.heap.size ≤ W.heap.size → Cnt c z W' := fun z W W' F h hch hF hs =>
  ⟨(hch.cell (p := ⟨c, 0, none⟩) (by show c < _; omega) (fun hm => hF c hm (by simp))).trans h.1, (hch.frozen (p := ⟨c, 0, none⟩) (by show c < _; omega) (fun hm => hF c hm (by simp))).trans h.2⟩
set_option maxRecDepth 100000 in
theorem small1_any (c : Nat) (z : Int) (vx : Value) (x0 x1 x2 x3 : Value) (hv : vx = .agg #[x0, x1, x2, x3]) (W : World) (h : Cnt c z W) :
    Calls Tryd.prog 46 #[vx, .pointer (some ⟨c, 0, none⟩)] W fun e w' => e = .returned (.bool (decide (wrap64 (z + 1) ≤ 1000))) ∧ Cnt c (wrap64 (z + 1)) w' ∧ Chg [c] W w' := by
  obtain ⟨h1, h2⟩ := h
  have h3 := fun o => new_ne' W h1 o
  have h4 : ∀ o, (W.alloc o).frozen? ⟨c, 0, none⟩ = false := fun o => (((Below.refl W.heap.size W).alloc (Nat.le_refl _) o).frozen (p := ⟨c, 0, none⟩) (lt_of_cell h1)).trans h2
  have hl := lt_of_cell h1
  subst hv
  have H1 := Lib.hid h1
  have H2 := Lib.hid h2
  have H4 := Lib.hid h4
  have H3 := Lib.hid h3
  go_enter Tryd.func46, Tryd.ntmps46
  go_wp2
  go_ret
  have hb : Below W.heap.size (W.setCell ⟨c, 0, none⟩ (.int .i64 (wrap64 (z + 1)))) ((W.setCell ⟨c, 0, none⟩ (.int .i64 (wrap64 (z + 1)))).alloc (.cells #[x0, x1, x2, x3] 25)) := (Below.refl _ _).alloc (by simp) _
  refine ⟨rfl, ⟨(hb.cell (p := ⟨c, 0, none⟩) hl).trans (by first | exact World.cell?_setCell_same _ H1.out | exact World.cell?_setCell_same _ _ H1.out | exact World.cell?_setCell_same _ _ _ H1.out), (hb.frozen (p := ⟨c, 0, none⟩) hl).trans ?_⟩, ((Chg.refl [c] W).setCell (p := ⟨c, 0, none⟩) (.inl (by simp)) _).alloc _⟩
  rw [World.frozen?_setCell]; exact H2.out
def SmallEnd (w : World) (r : Bool) (e : Ending) (w' : World) : Prop := e = .returned (.bool r) ∧ Below w.heap.size w w'
set_option maxRecDepth 100000 in
set_option maxHeartbeats 1600000 in
theorem small_any {w : World} {p bm N n : Nat} {fr pr : Int} {σ : Int → Option Ty} {s : Int → Ty} (h : Solv R w p bm N n fr pr σ s) (t : Ty) (v : Value) (ht : TyIs w (Tr R N p bm) t v) :
    Calls Tryd.prog 32 #[.pointer (some ⟨p, 0, none⟩), v] w (SmallEnd w (decide ((t.sub s).sz ≤ 1000))) := by
  obtain ⟨ao, cap, rfl⟩ := ht.form
  obtain ⟨K, hK⟩ := h.sol.all t
  have hN := h.hN
  obtain ⟨w0, hw0⟩ : ∃ w0, w0 = (w.alloc (.cells #[.int .i64 t.op, .int .i64 t.num, .string t.text, .slice ao t.kids.length cap] 25)).alloc (.cells #[.int .i64 0] 3) := ⟨_, rfl⟩
  have hb0 : Below w.heap.size w w0 := by rw [hw0]; exact ((Below.refl _ _).alloc (Nat.le_refl _) _).alloc (by simp) _
  have hs0 : w0.heap.size = w.heap.size + 2 := by rw [hw0]; simp
  have hcnt : Cnt (w.heap.size + 1) 0 w0 := by
    have h1 : w0.heap[w.heap.size + 1]? = some (.cells #[.int .i64 0] 3 (0, 0)) := by rw [hw0]; exact heap_new2 _ _ _
    exact ⟨by simp [World.cell?, h1], by simp [World.frozen?, h1]⟩
  have hsv := h.below (hb0.mono hN)
  have htv : TyIs w0 (Tr R N p bm) t (tval t ao cap) := ht.below hb0 (fun b hb => by have := hb.1; omega)
  have ha : Asks R [w.heap.size + 1] N p bm w0 46 #[.pointer (some ⟨w.heap.size + 1, 0, none⟩)] okS nxS (Cnt (w.heap.size + 1)) := by
    refine ⟨fun args w => by kernel_rfl, fun k hk => by simp only [List.mem_singleton] at hk; omega, cnt_keep (by omega), fun z W u ao cap hz hc hu => ?_⟩
    exact small1_any (w.heap.size + 1) z _ _ _ _ _ rfl W hz
  have HV := Lib.hid (visit_walk hsv ha K t _ w0 0 hK htv (Chg.refl _ _) hcnt)
  unfold VisEnd at HV
  rw [Ty.vis_small] at HV
  have HW0 := Lib.hid hw0
  have HB0 := Lib.hid hb0
  have HS0 := Lib.hid hs0
  obtain ⟨r, hr⟩ : ∃ r, decide ((t.sub s).sz ≤ 1000) = r := ⟨_, rfl⟩
  rw [hr] at HV ⊢
  clear h ht hK hw0 hb0 hs0 hcnt hsv htv ha hr
  unfold tval at *
  go_enter Tryd.func32, Tryd.ntmps32
  go_wp2_with (go_at_call 45; rw [← HW0.out]; refine HV.out.mono ?_; clear HV; rintro e w5 ⟨rfl, hg5, hc5⟩)
  go_ret
  exact ⟨rfl, HB0.out.trans (hc5.below (by have := HS0.out; omega) (by simp))⟩

set_option maxRecDepth 100000 in
theorem bind1_any (c : Nat) (m : Int) (u : Ty) (ao : Option Addr) (cap : Nat) (W : World) (h : W.cell? ⟨c, 0, none⟩ = some (.int .i64 m)) :
    Calls Tryd.prog 56 #[tval u ao cap, .pointer (some ⟨c, 0, none⟩)] W fun e w' => e = .returned (.bool (Ty.okB m 0 u.top)) ∧ Below W.heap.size W w' := by
  have h3 := fun o => new_ne' W h o
  have H := Lib.hid h
  clear h
  cases u with
  | var n =>
    unfold tval
    simp only [Ty.op, Ty.num, Ty.text, Ty.kids, Ty.okB, Ty.top]
    by_cases e : n = m
    · subst e
      have e1 : (some n != some n) = false := by simp
      rw [e1]
      clear e1
      go_enter Tryd.func56, Tryd.ntmps56
      go_wp2
      go_ret
      exact ⟨rfl, (Below.refl _ _).alloc (Nat.le_refl _) _⟩
    · have e1 : (some n != some m) = true := by simpa using e
      rw [e1]
      have e2 : (n == m) = false := by simpa using e
      have e3 : (n != m) = true := by simp [bne, e2]
      clear e e1
      go_enter Tryd.func56, Tryd.ntmps56
      go_wp2
      go_ret
      exact ⟨rfl, (Below.refl _ _).alloc (Nat.le_refl _) _⟩
  | con d l =>
    unfold tval
    simp only [Ty.op, Ty.num, Ty.text, Ty.kids, Ty.okB, Ty.top]
    have e1 : ((none : Option Int) != some m) = true := by simp
    rw [e1]
    clear e1
    go_enter Tryd.func56, Tryd.ntmps56
    go_wp2
    go_ret
    exact ⟨rfl, (Below.refl _ _).alloc (Nat.le_refl _) _⟩
/-- Is a variable in a type? -/
theorem occurs_any {w : World} {p bm N n c : Nat} {fr pr m : Int} {σ : Int → Option Ty} {s : Int → Ty} (h : Solv R w p bm N n fr pr σ s) (t : Ty) (v : Value) (ht : TyIs w (Tr R N p bm) t v) (hc : w.cell? ⟨c, 0, none⟩ = some (.int .i64 m)) (hcl : c < w.heap.size) (hcN : N ≤ c) :
    Calls Tryd.prog 45 #[.pointer (some ⟨p, 0, none⟩), v, .func (.func 56) #[] #[.pointer (some ⟨c, 0, none⟩)]] w fun e w' => e = .returned (.bool (!(t.sub s).has m)) ∧ w'.cell? ⟨c, 0, none⟩ = some (.int .i64 m) ∧ Chg [c] w w' := by
  obtain ⟨K, hK⟩ := h.sol.all t
  have ha : Asks R [c] N p bm w 56 #[.pointer (some ⟨c, 0, none⟩)] (Ty.okB m) id (fun _ W => W.cell? ⟨c, 0, none⟩ = some (.int .i64 m)) := by
    refine ⟨fun args w => by kernel_rfl, fun k hk => by simp only [List.mem_singleton] at hk; omega, fun z W W' F hg hch hF hs => ?_, fun z W u ao cap hz hch hu => ?_⟩
    · exact (hch.cell (p := ⟨c, 0, none⟩) (by show c < _; omega) (fun hm => hF c hm (by simp))).trans hg
    · refine (bind1_any c m u ao cap W hz).mono fun e w' h => ⟨h.1, ?_, (below_chg h.2).mono (by simp)⟩
      exact (h.2.cell (p := ⟨c, 0, none⟩) (lt_of_cell hz)).trans hz
  have := visit_walk h ha K t v w 0 hK ht (Chg.refl _ _) hc
  unfold VisEnd at this
  rw [Ty.vis_has] at this
  exact this.mono fun e w' h => h
end Go.Proofs.YthchkekegkhanaaDoor
/- The program's bind. -/
namespace Go.Proofs.YthchkekegkhanaaDoor
open Go.RowKit Go.Maps
set_option linter.unusedVariables false
variable {R : Nat → Prop}

def BindEnd (R : Nat → Prop) (w : World) (p bm N n : Nat) (fr pr : Int) (r : Int × (Int → Ty)) (e : Ending) (w' : World) : Prop :=
  ∃ σ' n', e = .returned (.int .i64 r.1) ∧ Solv R w' p bm N n' fr pr σ' r.2 ∧ n' ≤ n + 1 ∧ Chg [bm] w w'
theorem Solv.store {w w' : World} {p bm N n : Nat} {fr pr m : Int} {σ : Int → Option Ty} {s : Int → Ty} {t : Ty} {v : Value} {f : Int → Option Value} (h : Solv R w p bm N n fr pr σ s)
    (hk : ∀ k, (σ k = none ∧ f k = none) ∨ ∃ t v, σ k = some t ∧ f k = some v ∧ TyIs w (Tr R N p bm) t v) (hm : VMap Tryd.prog 3 w' bm (n + 1) (fun j => if j = m then some v else f j)) (hc : Chg [bm] w w') (ht : TyIs w (Tr R N p bm) t v) (hf : σ m = none) (hn : (t.sub s).has m = false) :
    Solv R w' p bm N (n + 1) fr pr (fun j => if j = m then some t else σ j) (ext s m (t.sub s)) := by
  have keep : ∀ {t : Ty} {v : Value}, TyIs w (Tr R N p bm) t v → TyIs w' (Tr R N p bm) t v := fun h' => h'.chg hc (fun b hb => ⟨by have := hb.1; have := h.hN; omega, by have := hb.2.2.1; simpa using this⟩)
  refine ⟨(hc.block p (by have := h.lp; have := h.hN; omega) (by have := h.ne; simpa using this)).trans h.hdr, ⟨_, hm, fun k => ?_⟩, h.sol.bind hf hn, h.lp, h.lb, h.ne, Nat.le_trans h.hN hc.size⟩
  by_cases e : k = m
  · subst e
    exact .inr ⟨t, v, by simp, by simp, keep ht⟩
  · rcases hk k with ⟨h1, h2⟩ | ⟨u, x, h1, h2, h3⟩
    · exact .inl ⟨by simp [e, h1], by simp [e, h2]⟩
    · exact .inr ⟨u, x, by simp [e, h1], by simp [e, h2], keep h3⟩
set_option maxRecDepth 100000 in
set_option maxHeartbeats 1600000 in
theorem bind_any {w : World} {p bm N n : Nat} {fr pr m : Int} {σ : Int → Option Ty} {s : Int → Ty} (h : Solv R w p bm N n fr pr σ s) (hn : n < 1000000000) (t : Ty) (v : Value) (ht : TyIs w (Tr R N p bm) t v) (hf : σ m = none) (hwf : (Lit.int .i64 m).wf = true) (r : Nat) :
    Calls Tryd.prog 48 #[.pointer (some ⟨p, 0, none⟩), .int .i64 m, v] w (BindEnd R w p bm N n fr pr ((bindF s r m (t.sub s)).1, (bindF s r m (t.sub s)).2.1)) := by
  obtain ⟨ao, cap, rfl⟩ := ht.form
  have hN := h.hN
  obtain ⟨w0, hw0⟩ : ∃ w0, w0 = (w.alloc (.cells #[.int .i64 m] 3)).alloc (.cells #[.int .i64 t.op, .int .i64 t.num, .string t.text, .slice ao t.kids.length cap] 25) := ⟨_, rfl⟩
  have hb0 : Below w.heap.size w w0 := by rw [hw0]; exact ((Below.refl _ _).alloc (Nat.le_refl _) _).alloc (by simp) _
  have hs0 : w0.heap.size = w.heap.size + 2 := by rw [hw0]; simp
  have z0 : w0.heap[w.heap.size]? = some (.cells #[.int .i64 m] 3 (0, 0)) := by rw [hw0]; exact (heap_alloc_old _ _ (by simp)).trans (heap_alloc_new _ _)
  have z1 : w0.heap[w.heap.size + 1]? = some (.cells #[.int .i64 t.op, .int .i64 t.num, .string t.text, .slice ao t.kids.length cap] 25 (0, 0)) := by rw [hw0]; exact heap_new2 _ _ _
  have hsv := h.below (hb0.mono hN)
  have htv : TyIs w0 (Tr R N p bm) t (tval t ao cap) := ht.below hb0 (fun b hb => by have := hb.1; omega)
  have HS := Lib.hid (small_any hsv t _ htv)
  have HSV := Lib.hid hsv
  have HTV := Lib.hid htv
  have HW0 := Lib.hid hw0
  have HB0 := Lib.hid hb0
  have HS0 := Lib.hid hs0
  have Z0 := Lib.hid z0
  have Z1 := Lib.hid z1
  have HF := Lib.hid hf
  have hlm := h.lb
  clear h ht hsv htv hb0 hs0 z0 z1 hf
  unfold SmallEnd at HS
  unfold tval at HS ⊢
  go_enter Tryd.func48, Tryd.ntmps48
  by_cases hsz : (t.sub s).sz ≤ 1000
  · rw [decide_eq_true hsz] at HS
    go_upto_region 3 with (go_at_call 32; rw [← HW0.out]; refine HS.out.mono ?_; clear HS; rintro e w5 ⟨rfl, hb5⟩; have z5 := (hb5.block (w.heap.size + 1) (lt_of_block Z1.out)).trans Z1.out; have z4 := (hb5.block w.heap.size (lt_of_block Z0.out)).trans Z0.out; have B5 := Lib.hid hb5; have Z5 := Lib.hid z5; have Z4 := Lib.hid z4; clear hb5 z5 z4)
    obtain ⟨c0, c1, c2, c3, c4⟩ := hdr4_cells Z5.out
    have m0 : w5.cell? ⟨w.heap.size, 0, none⟩ = some (.int .i64 m) := by simp [World.cell?, Z4.out]
    have hsz5 : w.heap.size + 2 ≤ w5.heap.size := by have := B5.out.size; have := HS0.out; omega
    have hsv5 := HSV.out.below (B5.out.mono (by have := HS0.out; omega))
    have htv5 : TyIs w5 (Tr R N p bm) t (tval t ao cap) := HTV.out.below B5.out (fun b hb => by have := hb.1; have := HS0.out; omega)
    have HO := Lib.hid (occurs_any hsv5 t _ htv5 m0 (by omega) hN)
    have HSV5 := Lib.hid hsv5
    have HTV5 := Lib.hid htv5
    clear hsv5 htv5
    unfold tval at HO
    obtain ⟨b, hb⟩ : ∃ b, (t.sub s).has m = b := ⟨_, rfl⟩
    rw [hb] at HO
    have HB := Lib.hid hb
    clear hb
    cases b
    · go_upto_region 5 with (go_at_call 45; refine HO.out.mono ?_; clear HO; rintro e w7 ⟨rfl, hm7, hc7⟩; have M7 := Lib.hid hm7; have C7 := Lib.hid hc7; clear hm7 hc7)
      have hsv7 := HSV5.out.below (C7.out.below (B := N) (by omega) (by simp; omega))
      have htv7 : TyIs w7 (Tr R N p bm) t (tval t ao cap) := HTV5.out.chg C7.out (fun b hb => ⟨by have := hb.1; omega, by have := hb.1; simp; omega⟩)
      have z7 := (C7.out.block (w.heap.size + 1) (by omega) (by simp)).trans Z5.out
      obtain ⟨d0, d1, d2, d3, d4⟩ := hdr4_cells z7
      obtain ⟨e0, e1, e2, e3⟩ := hdr3_cells hsv7.hdr
      have m7 := M7.out
      obtain ⟨f, hf7, hk7⟩ := hsv7.map
      have HF7 := Lib.hid hf7
      have HK7 := Lib.hid hk7
      have HSV7 := Lib.hid hsv7
      have HTV7 := Lib.hid htv7
      clear hf7 hk7 hsv7 htv7 z7 c0 c1 c2 c3 c4 m0
      go_wp2
      refine region_tail 6 (by kernel_rfl) (by kernel_rfl) ?_
      simp only [List.take_succ_cons, List.take_zero, List.drop_succ_cons, List.drop_zero]
      repeat (refine wpStill_step (fun K hK => ?_); go_simp; (try go_bits); (refine hK _ ?_; clear hK K))
      refine wpStill_nil ?_
      refine wpList_update_vmap rfl _ _ _ 67 rfl Tryd.underlying3 Tryd.underlying67 (VMap.drewN HF7.out 1) (by unfold maxLen; omega) rfl m (tval t ao cap) rfl rfl hwf ?_
      intro w9 hm9 hc9
      have HM9 := Lib.hid hm9
      have HC9 := Lib.hid hc9
      clear hm9 hc9
      go_wp2
      go_ret
      have hbf : bindF s r m (t.sub s) = (0, ext s m (t.sub s), r) := by unfold bindF; rw [if_neg (by omega), if_neg (by rw [HB.out]; simp)]
      rw [hbf]
      have hc79 : Chg [bm] w7 w9 := by
        have h1 : Chg [bm] w7 w7.drew := (Chg.refl [bm] w7).drewN 1
        exact h1.trans HC9.out (fun k hk => .inl hk)
      refine ⟨_, n + 1, rfl, HSV7.out.store HK7.out HM9.out hc79 HTV7.out HF.out HB.out, Nat.le_refl _, ?_⟩
      have hw7 : Chg [bm] w w7 := by
        have h1 : Below w.heap.size w w5 := HB0.out.trans (B5.out.mono (by have := HS0.out; omega))
        have h2 : Below w.heap.size w w7 := h1.trans (C7.out.below (B := w.heap.size) (by omega) (by simp))
        exact (below_chg h2).mono (by simp)
      exact hw7.trans hc79 (fun k hk => .inl hk)
    · go_wp2_with (go_at_call 45; refine HO.out.mono ?_; clear HO; rintro e w7 ⟨rfl, hm7, hc7⟩; have M7 := Lib.hid hm7; have C7 := Lib.hid hc7; clear hm7 hc7)
      go_ret
      have hbf : bindF s r m (t.sub s) = (11, s, r) := by unfold bindF; rw [if_neg (by omega), if_pos (by rw [HB.out])]
      rw [hbf]
      refine ⟨σ, n, rfl, HSV5.out.below (C7.out.below (B := N) (by omega) (by simp; omega)), by omega, ?_⟩
      have h1 : Below w.heap.size w w5 := HB0.out.trans (B5.out.mono (by have := HS0.out; omega))
      exact (below_chg (h1.trans (C7.out.below (B := w.heap.size) (by omega) (by simp)))).mono (by simp)
  · rw [decide_eq_false hsz] at HS
    go_wp2_with (go_at_call 32; rw [← HW0.out]; refine HS.out.mono ?_; clear HS; rintro e w5 ⟨rfl, hb5⟩; have B5 := Lib.hid hb5; clear hb5)
    go_ret
    have hbf : bindF s r m (t.sub s) = (4, s, r) := by unfold bindF; rw [if_pos (by omega)]
    rw [hbf]
    refine ⟨σ, n, rfl, HSV.out.below (B5.out.mono (by have := HS0.out; omega)), by omega, ?_⟩
    exact (below_chg (HB0.out.trans (B5.out.mono (by have := HS0.out; omega)))).mono (by simp)
end Go.Proofs.YthchkekegkhanaaDoor
