/- The reference's pair. -/
import Derived.Test.YthchkekegkhanaaDoorKdRBind
namespace Go.Proofs.YthchkekegkhanaaDoor
open Go.RowKit Go.Maps
set_option linter.unusedVariables false

def RPairEnd (w : World) (p : Nat) (v : Value) (md : Int) (n r : Nat) (res : Int × St) (e : Ending) (w' : World) : Prop :=
  ∃ v' L', e = .returned (.int .i64 res.1) ∧ RSolv w' p v' md (10000 - (res.2.2 : Int)) L' res.2.1 ∧ L'.length + res.2.2 ≤ n + r ∧ RStep p w v w' v'
def RPairLoop (p : Nat) (v : Value) (md : Int) (n r : Nat) (g : St → Ty → Ty → Int × St) (s : Int → Ty) (la lb : List Ty) (W : World) (gk : Nat) (s7 : Value) (wr : World) : Prop :=
  ∃ (i : Nat) (vi : Value) (Li : List (Int × Ty)) (si : Int → Ty) (ri : Nat), s7 = .int .i64 i ∧ i + gk = lb.length ∧ RSolv wr p vi md (10000 - (ri : Int)) Li si ∧ Li.length + ri ≤ n + r ∧ ri ≤ r ∧ Grows s si ∧
    pairsF g (s, r) (la.map (Ty.sub s)) (lb.map (Ty.sub s)) = pairsF g (si, ri) ((la.drop i).map (Ty.sub s)) ((lb.drop i).map (Ty.sub s)) ∧ RStep p W v wr vi
def RPairHead (w : World) (p : Nat) (v : Value) (md : Int) (r : Nat) (L : List (Int × Ty)) (s : Int → Ty) (a b : Ty) (W : World) : Prop :=
  ∃ u x aou capu aox capx, W.heap[w.heap.size]? = some (.cells #[.int .i64 u.op, .int .i64 u.num, .string u.text, .slice aou u.kids.length capu] 40 (0, 0)) ∧ W.heap[w.heap.size + 1]? = some (.cells #[.int .i64 x.op, .int .i64 x.num, .string x.text, .slice aox x.kids.length capx] 40 (0, 0)) ∧
    RSolv W p v md (10000 - (r : Int)) L s ∧ TyIs W (Rr W p v) u (tval u aou capu) ∧ TyIs W (Rr W p v) x (tval x aox capx) ∧ HeadOf (look L) s a u ∧ HeadOf (look L) s b x ∧ RStep p w v W v
theorem foot_new {w : World} {p q : Nat} {v : Value} (hp : p < w.heap.size) (hv : ∀ k, v.ownBlock = some k → k < w.heap.size) (hq : w.heap.size ≤ q) : q ∉ p :: v.ownBlock.toList := by
  intro hm
  rcases List.mem_cons.1 hm with rfl | hm
  · omega
  · have := hv q (Option.mem_toList.1 hm); omega
theorem foot_not {w : World} {p b : Nat} {v : Value} (h : Rr w p v b) : b ∉ p :: v.ownBlock.toList := by
  intro hm
  rcases List.mem_cons.1 hm with rfl | hm
  · exact h.2.1 rfl
  · exact h.2.2 (Option.mem_toList.1 hm)
theorem count_below {w w0 : World} {p : Nat} {A : Array Value} {t : TypeId} (hb : Below w.heap.size w w0) (x : Value) (hp : w.heap[p]? = some (.cells A t (0, 0))) : Below (w.setCell ⟨p, 2, none⟩ x).heap.size (w.setCell ⟨p, 2, none⟩ x) (w0.setCell ⟨p, 2, none⟩ x) := by
  have hs : (w.setCell ⟨p, 2, none⟩ x).heap.size = w.heap.size := by simp [World.setCell]
  have hs0 : (w0.setCell ⟨p, 2, none⟩ x).heap.size = w0.heap.size := by simp [World.setCell]
  refine ⟨hb.os, hb.tape, hb.output, by rw [hs, hs0]; exact hb.size, fun k hk => ?_⟩
  rw [hs] at hk
  by_cases e : k = p
  · subst e
    rw [setc_block hp, setc_block ((hb.block k hk).trans hp)]
  · rw [(chg1_set w0 p 2 x).block k (Nat.lt_of_lt_of_le hk hb.size) (by simpa using e), (chg1_set w p 2 x).block k hk (by simpa using e)]
    exact hb.block k hk
theorem rpair_head {w wb W1 w5 w7 W : World} {p r : Nat} {v : Value} {md : Int} {L : List (Int × Ty)} {s : Int → Ty} {a b u x : Ty} {aou aox : Option Addr} {capu capx : Nat} (hsb : wb.heap.size = w.heap.size) (hs : W1.heap.size = w.heap.size + 2) (hsv : RSolv wb p v md (10000 - (r : Int)) L s) (hc : RStep p w v wb v) (hWB : Below wb.heap.size wb W1)
    (h7 : Below W1.heap.size W1 w7) (h57 : Below w5.heap.size w5 w7) (hu : TyIs w5 (Rr wb p v) u (tval u aou capu)) (hx : TyIs w7 (Rr wb p v) x (tval x aox capx)) (hou : HeadOf (look L) s a u) (hox : HeadOf (look L) s b x)
    (zA : W.heap[w.heap.size]? = some (.cells #[.int .i64 u.op, .int .i64 u.num, .string u.text, .slice aou u.kids.length capu] 40 (0, 0))) (zB : W.heap[w.heap.size + 1]? = some (.cells #[.int .i64 x.op, .int .i64 x.num, .string x.text, .slice aox x.kids.length capx] 40 (0, 0)))
    (hcW : Chg [w.heap.size, w.heap.size + 1] w7 W) (h5 : W1.heap.size ≤ w5.heap.size) : RPairHead w p v md r L s a b W := by
  have h7s := h7.size
  have hWs := hcW.size
  have hbW : Below wb.heap.size wb W := (hWB.trans (h7.mono (by omega))).trans (hcW.below (by omega) (by simp; omega))
  refine ⟨u, x, aou, capu, aox, capx, zA, zB, hsv.below hbW, ?_, ?_, hou, hox, hc.trans (.made v hbW)⟩
  · exact ((hu.below h57 (fun b hb => by have := hb.1; omega)).chg hcW (fun b hb => ⟨by have := hb.1; omega, by have := hb.1; simp; omega⟩)).mono fun b hb => Rr.up hbW.size hb
  · exact (hx.chg hcW (fun b hb => ⟨by have := hb.1; omega, by have := hb.1; simp; omega⟩)).mono fun b hb => Rr.up hbW.size hb
theorem rpair_bind {w W w9 : World} {p n r : Nat} {v v9 : Value} {md m : Int} {L9 : List (Int × Ty)} {s : Int → Ty} {y : Ty} (h9 : RSolv w9 p v9 md (10000 - (r : Int)) L9 ((bindF s r m y).1, (bindF s r m y).2.1).2) (hn : L9.length ≤ n + 1) (hc9 : RStep p W v w9 v9) (hc : RStep p w v W v) :
    RPairEnd w p v md n (r + 1) (bindF s r m y) (.returned (.int .i64 (bindF s r m y).1)) w9 := by
  refine ⟨v9, L9, rfl, ?_, ?_, hc.trans hc9⟩
  · rw [bindF_left]; exact h9
  · rw [bindF_left]; omega
theorem RSolv.count {w : World} {p : Nat} {v : Value} {md pr : Int} {L : List (Int × Ty)} {s : Int → Ty} (h : RSolv w p v md pr L s) (x y : Int) (hxy : x = y) : RSolv (w.setCell ⟨p, 2, none⟩ (.int .i64 x)) p v md y L s ∧ Chg [p] w (w.setCell ⟨p, 2, none⟩ (.int .i64 x)) := by
  subst hxy
  have hc := chg1_set w p 2 (.int .i64 x)
  have hst : RStep p w v (w.setCell ⟨p, 2, none⟩ (.int .i64 x)) v := ⟨hc.mono (by simp), .inl rfl⟩
  obtain ⟨ps, h1, h2, h3⟩ := h.row
  refine ⟨⟨(setc_block h.hdr).trans rfl, ⟨ps, h1, h2.chg hc (fun k hk hm => ?_), fun i x q hx hq => (h3 i x q hx hq).stepped hst⟩, h.sol, h.ne⟩, hc⟩
  rw [List.mem_singleton] at hm
  subst hm
  exact h.ne hk
set_option maxRecDepth 100000 in
set_option maxHeartbeats 3200000 in
theorem refPair_walk {p : Nat} {md : Int} (f : Nat) : ∀ (r : Nat) (a b : Ty) (va vb : Value) (w : World) (v : Value) (L : List (Int × Ty)) (s : Int → Ty), r < f → r ≤ 10000 → L.length + r < 100000000 → RSolv w p v md (10000 - (r : Int)) L s → TyIs w (Rr w p v) a va → TyIs w (Rr w p v) b vb →
    Calls Tryd.prog 37 #[.pointer (some ⟨p, 0, none⟩), va, vb] w (RPairEnd w p v md L.length r (pairF f (s, r) a b)) := by
  induction f with
  | zero => intro r a b va vb w v L s h; omega
  | succ f ih =>
    intro r a b va vb w v L s hrf hr1 hnr h ha hb
    obtain ⟨aoa, capa, rfl⟩ := ha.form
    obtain ⟨aob, capb, rfl⟩ := hb.form
    have hlp := lt_of_block h.hdr
    have HOWN : Hid (∀ k, v.ownBlock = some k → k < w.heap.size) := fun k hk => by obtain ⟨ps, _, h2, _⟩ := h.row; exact h2.lt hk
    obtain ⟨w0, hw0⟩ : ∃ w0, w0 = (w.alloc (.cells #[.int .i64 a.op, .int .i64 a.num, .string a.text, .slice aoa a.kids.length capa] 40)).alloc (.cells #[.int .i64 b.op, .int .i64 b.num, .string b.text, .slice aob b.kids.length capb] 40) := ⟨_, rfl⟩
    have hb0 : Below w.heap.size w w0 := by rw [hw0]; exact ((Below.refl _ _).alloc (Nat.le_refl _) _).alloc (by simp) _
    have hs0 : w0.heap.size = w.heap.size + 2 := by rw [hw0]; simp
    have z0 : w0.heap[w.heap.size]? = some (.cells #[.int .i64 a.op, .int .i64 a.num, .string a.text, .slice aoa a.kids.length capa] 40 (0, 0)) := by rw [hw0]; exact (heap_alloc_old _ _ (by simp)).trans (heap_alloc_new _ _)
    have z1 : w0.heap[w.heap.size + 1]? = some (.cells #[.int .i64 b.op, .int .i64 b.num, .string b.text, .slice aob b.kids.length capb] 40 (0, 0)) := by rw [hw0]; exact heap_new2 _ _ _
    have hsv := h.below hb0
    obtain ⟨e0, e1, e2, e3⟩ := hdr3_cells hsv.hdr
    have HB0 := Lib.hid hb0
    have HS0 := Lib.hid hs0
    cases r with
    | zero =>
      have hpr : (10000 : Int) - ((0 : Nat) : Int) = 10000 := by omega
      rw [hpr] at e2
      have HSV := Lib.hid hsv
      clear h ha hb hb0 hs0 z0 z1 hsv hpr
      unfold tval
      go_enter Tryd.func37, Tryd.ntmps37
      go_upto_region 1 with fail
      rw [← hw0]
      clear hw0
      go_wp2
      go_ret
      rw [pairF]
      exact ⟨v, L, rfl, HSV.out, by simp, .made v HB0.out⟩
    | succ r =>
      obtain ⟨pr, hpr⟩ : ∃ pr : Int, 10000 - ((r + 1 : Nat) : Int) = pr := ⟨_, rfl⟩
      rw [hpr] at e2 hsv
      have g1 : ¬ 10000 ≤ pr := by omega
      have g2 : 0 ≤ pr := by omega
      have g3 : pr < 10000 := by omega
      have hpr2 : pr + 1 = 10000 - (r : Int) := by omega
      obtain ⟨hsv1, hc1⟩ := hsv.count (pr + 1) _ hpr2
      have hba := ha.rr hb0
      have hbb := hb.rr hb0
      have HPR2 := Lib.hid hpr2
      obtain ⟨hsvb, hcb⟩ := RSolv.count (pr := pr) (hpr ▸ h) (pr + 1) _ hpr2
      have hst1 : RStep p w v (w.setCell ⟨p, 2, none⟩ (.int .i64 (pr + 1))) v := ⟨hcb.mono (by simp), .inl rfl⟩
      have hta := ha.stepped hst1
      have htb := hb.stepped hst1
      have hWB := count_below hb0 (.int .i64 (pr + 1)) h.hdr
      have hsb : (w.setCell ⟨p, 2, none⟩ (.int .i64 (pr + 1))).heap.size = w.heap.size := by simp [World.setCell]
      have za := (hc1.block w.heap.size (by omega) (by simp; omega)).trans z0
      have zb := (hc1.block (w.heap.size + 1) (by omega) (by simp; omega)).trans z1
      generalize (w.setCell ⟨p, 2, none⟩ (.int .i64 (pr + 1))) = wb at hsvb hst1 hta htb hWB hsb
      clear hcb
      have HST := Lib.hid hst1
      have HSB := Lib.hid hsb
      have HWB := Lib.hid hWB
      have HSVB := Lib.hid hsvb
      have hs1 : (w0.setCell ⟨p, 2, none⟩ (.int .i64 (pr + 1))).heap.size = w.heap.size + 2 := by simp [World.setCell, hs0]
      unfold tval
      go_enter Tryd.func37, Tryd.ntmps37
      go_upto_region 1 with fail
      rw [← hw0]
      clear hw0 h ha hb hb0 hpr hsv hpr2 z0 z1 hc1 hs0 hst1 hba hbb hsvb hsb hWB
      go_upto_region 4 with fail
      generalize (w0.setCell ⟨p, 2, none⟩ (.int .i64 (pr + 1))) = W1 at hsv1 za zb hs1 HWB ⊢
      have HHA : Hid (∀ W, Below W1.heap.size W1 W → Calls Tryd.prog 49 #[.pointer (some ⟨p, 0, none⟩), tval a aoa capa] W (RHeadEnd wb W p v L s a)) := fun W hW => refHead_any (HWB.out.trans (hW.mono HWB.out.size)) HSVB.out a _ (hta.below (HWB.out.trans (hW.mono HWB.out.size)) (fun b hb => hb.1))
      have HHB : Hid (∀ W, Below W1.heap.size W1 W → Calls Tryd.prog 49 #[.pointer (some ⟨p, 0, none⟩), tval b aob capb] W (RHeadEnd wb W p v L s b)) := fun W hW => refHead_any (HWB.out.trans (hW.mono HWB.out.size)) HSVB.out b _ (htb.below (HWB.out.trans (hW.mono HWB.out.size)) (fun b hb => hb.1))
      unfold tval RHeadEnd at HHA HHB
      obtain ⟨c0, c1, c2, c3, c4⟩ := hdr4_cells za
      obtain ⟨d0, d1, d2, d3, d4⟩ := hdr4_cells zb
      have ZA := Lib.hid za
      have ZB := Lib.hid zb
      have HSV := Lib.hid hsv1
      have HS1 := Lib.hid hs1
      clear hsv1 hta htb za zb hs1 e0 e1 e2 e3
      go_cut [] (fun wx => RPairHead w p v md r L s a b wx)
      case first =>
       go_region_law (first
        | (refine step_callw (w := W1.drew) (by rfl) 49 #[.pointer (some ⟨p, 0, none⟩), .agg #[.int .i64 a.op, .int .i64 a.num, .string a.text, .slice aoa a.kids.length capa]] ?_ (HHA.out W1.drew (Below.refl _ _).drew) ?_; go_simp; rintro e w5 ⟨u, aou, capu, rfl, hu, huo, hb5⟩; refine ⟨_, rfl, ?_⟩; replace hb5 : Below W1.heap.size W1 w5 := ((Below.refl _ _).drew).trans hb5; have za5 := (hb5.block w.heap.size (lt_of_block ZA.out)).trans ZA.out; have zb5 := (hb5.block (w.heap.size + 1) (lt_of_block ZB.out)).trans ZB.out; obtain ⟨f0, f1, f2, f3, f4⟩ := hdr4_cells za5; obtain ⟨g0, g1', g2', g3', g4⟩ := hdr4_cells zb5; have B5 := Lib.hid hb5; have U5 := Lib.hid hu; have UO := Lib.hid huo; clear hb5 hu huo za5 zb5)
        | (refine step_callw (w := w5) (by rfl) 49 #[.pointer (some ⟨p, 0, none⟩), .agg #[.int .i64 b.op, .int .i64 b.num, .string b.text, .slice aob b.kids.length capb]] ?_ (HHB.out w5 B5.out) ?_; go_simp; rintro e w7 ⟨x, aox, capx, rfl, hx, hxo, hb7⟩; refine ⟨_, rfl, ?_⟩; have B57 := Lib.hid hb7; replace hb7 : Below W1.heap.size W1 w7 := B5.out.trans (hb7.mono B5.out.size); have za7 := (hb7.block w.heap.size (lt_of_block ZA.out)).trans ZA.out; have zb7 := (hb7.block (w.heap.size + 1) (lt_of_block ZB.out)).trans ZB.out; obtain ⟨h0, h1, h2, h3, h4⟩ := hdr4_cells za7; obtain ⟨i0, i1, i2, i3, i4⟩ := hdr4_cells zb7; have hs7 := hb7.size; have hs57 := B5.out.size; have B7 := Lib.hid hb7; have X7 := Lib.hid hx; have XO := Lib.hid hxo; have ZA7 := Lib.hid za7; have ZB7 := Lib.hid zb7; clear hb7 hx hxo za7 zb7))
       all_goals go_wp2
       all_goals go_meet
       all_goals
        obtain ⟨W, hW, zA, zB, hcW⟩ := eight_ret (y0 := .int .i64 u.op) (y1 := .int .i64 u.num) (y2 := .string u.text) (y3 := .slice aou u.kids.length capu) (x0 := .int .i64 x.op) (x1 := .int .i64 x.num) (x2 := .string x.text) (x3 := .slice aox x.kids.length capx) ZA7.out ZB7.out
        rw [← hW]
        exact rpair_head HSB.out HS1.out HSVB.out HST.out HWB.out B7.out B57.out U5.out X7.out UO.out XO.out zA zB hcW (by have := HS1.out; omega)
      case rest =>
        obtain ⟨u, x, aou, capu, aox, capx, zA, zB, hsvW, huW, hxW, hou, hox, hcW⟩ := hcut
        rename World => W
        have hs1 := HS1.out
        have hcs := hcW.1.size
        have hPF : Hid (pairF (f + 1) (s, r + 1) a b = pairT (pairF f) s r (u.sub s) (x.sub s)) := by show _ = _; rw [pairF, hou.eq, hox.eq]
        have HUW := Lib.hid huW
        have HXW := Lib.hid hxW
        have HSW := Lib.hid hsvW
        have HCW2 := Lib.hid hcW
        have hfu := hou.free
        have hfx := hox.free
        obtain ⟨c0, c1, c2, c3, c4⟩ := hdr4_cells zA
        obtain ⟨d0, d1, d2, d3, d4⟩ := hdr4_cells zB
        have ZA2 := Lib.hid zA
        have ZB2 := Lib.hid zB
        clear huW hxW hsvW hcW HHA HHB HSV HSVB HST HSB HWB ZA ZB HS1 zA zB hou hox
        cases u with
        | var m =>
          have hfm := Lib.hid (hfu m rfl)
          have hsm := HSW.out.sol.free m hfm.out
          have HBI := Lib.hid (refBind_any HSW.out (by omega) x _ HXW.out hfm.out r)
          simp only [Ty.op, Ty.num, Ty.text, Ty.kids] at c0 c1 c2 c3
          cases x with
          | var m' =>
            have hsm' := HSW.out.sol.free m' (hfx m' rfl)
            simp only [Ty.op, Ty.num, Ty.text, Ty.kids] at d0 d1 d2 d3
            by_cases hmm : m = m'
            · subst hmm
              have hres : Hid (pairF (f + 1) (s, r + 1) a b = (0, s, r)) := by show _ = _; rw [hPF.out, Ty.sub, hsm, pairT, if_pos rfl]
              clear hfu hfx hsm hsm' HBI hPF
              go_wp2
              go_ret
              rw [hres.out]
              exact ⟨v, L, rfl, HSW.out, by simp, HCW2.out⟩
            · have hres : Hid (pairF (f + 1) (s, r + 1) a b = bindF s r m ((Ty.var m').sub s)) := by show _ = _; rw [hPF.out, Ty.sub, Ty.sub, hsm, hsm', pairT, if_neg hmm]
              have t1 : (m == m') = false := by simpa using hmm
              clear hfu hfx hsm hsm' hPF hmm
              unfold tval at HBI
              simp only [Ty.op, Ty.num, Ty.text, Ty.kids] at HBI
              go_wp2_with (go_at_call 50; refine HBI.out.mono ?_; clear HBI; rintro e w9 hbe; obtain ⟨v9, L9, rfl, hsv9, hn9, hc9⟩ := hbe; have HSV9 := Lib.hid hsv9; have HN9 := Lib.hid hn9; have HC9 := Lib.hid hc9; clear hsv9 hn9 hc9)
              go_ret
              rw [hres.out]
              exact rpair_bind HSV9.out HN9.out HC9.out HCW2.out
          | con c l =>
            simp only [Ty.op, Ty.num, Ty.text, Ty.kids] at d0 d1 d2 d3
            have hres : Hid (pairF (f + 1) (s, r + 1) a b = bindF s r m ((Ty.con c l).sub s)) := by show _ = _; rw [hPF.out, Ty.sub, Ty.sub_con, hsm, pairT]
            clear hfu hfx hsm hPF
            unfold tval at HBI
            simp only [Ty.op, Ty.num, Ty.text, Ty.kids] at HBI
            go_wp2_with (go_at_call 50; refine HBI.out.mono ?_; clear HBI; rintro e w9 hbe; obtain ⟨v9, L9, rfl, hsv9, hn9, hc9⟩ := hbe; have HSV9 := Lib.hid hsv9; have HN9 := Lib.hid hn9; have HC9 := Lib.hid hc9; clear hsv9 hn9 hc9)
            go_ret
            rw [hres.out]
            exact rpair_bind HSV9.out HN9.out HC9.out HCW2.out
        | con c l =>
          simp only [Ty.op, Ty.num, Ty.text, Ty.kids] at c0 c1 c2 c3
          cases x with
          | var m =>
            have hfm := Lib.hid (hfx m rfl)
            have hsm := HSW.out.sol.free m hfm.out
            have HBI := Lib.hid (refBind_any HSW.out (by omega) (.con c l) _ HUW.out hfm.out r)
            simp only [Ty.op, Ty.num, Ty.text, Ty.kids] at d0 d1 d2 d3
            have hres : Hid (pairF (f + 1) (s, r + 1) a b = bindF s r m ((Ty.con c l).sub s)) := by show _ = _; rw [hPF.out, Ty.sub, Ty.sub_con, hsm, pairT]
            clear hfu hfx hsm hPF
            unfold tval at HBI
            simp only [Ty.op, Ty.num, Ty.text, Ty.kids] at HBI
            go_wp2_with (go_at_call 50; refine HBI.out.mono ?_; clear HBI; rintro e w9 hbe; obtain ⟨v9, L9, rfl, hsv9, hn9, hc9⟩ := hbe; have HSV9 := Lib.hid hsv9; have HN9 := Lib.hid hn9; have HC9 := Lib.hid hc9; clear hsv9 hn9 hc9)
            go_ret
            rw [hres.out]
            exact rpair_bind HSV9.out HN9.out HC9.out HCW2.out
          | con d l' =>
            simp only [Ty.op, Ty.num, Ty.text, Ty.kids] at d0 d1 d2 d3
            have hpt : Hid (pairF (f + 1) (s, r + 1) a b = if c = d ∧ l.length = l'.length then pairsF (pairF f) (s, r) (l.map (Ty.sub s)) (l'.map (Ty.sub s)) else (11, s, r)) := by show _ = _; rw [hPF.out, Ty.sub_con, Ty.sub_con, pairT, List.length_map, List.length_map]
            clear hfu hfx hPF
            obtain ⟨ao1, cp1, hv1, hle1, hmx1, _, _, hk1⟩ := HUW.out.con
            obtain ⟨ao2, cp2, hv2, hle2, hmx2, _, _, hk2⟩ := HXW.out.con
            have hv1' : Value.slice aou l.length capu = .slice ao1 l.length cp1 := by
              have := congrArg (fun v => match v with | Value.agg a => a[3]? | _ => none) hv1
              simpa [tval, Ty.kids] using this
            have hv2' : Value.slice aox l'.length capx = .slice ao2 l'.length cp2 := by
              have := congrArg (fun v => match v with | Value.agg a => a[3]? | _ => none) hv2
              simpa [tval, Ty.kids] using this
            cases hv1'
            cases hv2'
            unfold maxLen at hmx1 hmx2
            have HK1 := Lib.hid hk1
            have HK2 := Lib.hid hk2
            clear hv1 hv2 hk1 hk2
            by_cases hcd : c = d
            · by_cases hll : l.length = l'.length
              · subst hcd
                have HLL := Lib.hid hll
                have hres : Hid (pairF (f + 1) (s, r + 1) a b = pairsF (pairF f) (s, r) (l.map (Ty.sub s)) (l'.map (Ty.sub s))) := by show _ = _; rw [hpt.out, if_pos ⟨rfl, hll⟩]
                go_wp2
                clear hll hpt d0 d1 d2 d3 d4 c0 c1 c2 c3 c4
                have HL : Hid (RPairLoop p v md L.length r (pairF f) s l l' W l'.length (.int .i64 0) W) := ⟨0, v, L, s, r, rfl, by omega, HSW.out, Nat.le_refl _, Nat.le_refl _, .refl HSW.out.sol.idem, rfl, .refl _ _ _⟩
                go_loopg [7] l'.length (fun gk s7 wr => RPairLoop p v md L.length r (pairF f) s l l' W gk s7 wr)
                case atStart => exact HL.out
                case round =>
                  clear HL
                  obtain ⟨i, vi, Li, si, ri, rfl, hik, hsi, hni, hri, hgi, hpi, hci⟩ := hrel
                  have hcis := hci.1.size
                  have zAi := (hci.1.block w.heap.size (lt_of_block ZA2.out) (foot_new hlp HOWN.out (Nat.le_refl _))).trans ZA2.out
                  have zBi := (hci.1.block (w.heap.size + 1) (lt_of_block ZB2.out) (foot_new hlp HOWN.out (by omega))).trans ZB2.out
                  simp only [Ty.op, Ty.num, Ty.text, Ty.kids] at zAi zBi
                  obtain ⟨c0, c1, c2, c3, c4⟩ := hdr4_cells zAi
                  obtain ⟨d0, d1, d2, d3, d4⟩ := hdr4_cells zBi
                  have HSI := Lib.hid hsi
                  have HGI := Lib.hid hgi
                  have HPI := Lib.hid hpi
                  have HCI := Lib.hid hci
                  clear hsi hgi hpi hci zAi zBi c0 c1 c2 d0 d1 d2
                  have g0 : (0 : Int) ≤ (i : Int) := by omega
                  by_cases hlt : i < l'.length
                  · have g1 : (i : Int) < (l'.length : Int) := by omega
                    have g5 : (i : Int) < (l.length : Int) := by have := HLL.out; omega
                    obtain ⟨tb, htb⟩ : ∃ u, l'[i]? = some u := ⟨_, List.getElem?_eq_getElem hlt⟩
                    obtain ⟨ta, hta⟩ : ∃ u, l[i]? = some u := ⟨_, List.getElem?_eq_getElem (by have := HLL.out; omega)⟩
                    obtain ⟨ba, oa, rfl, hba⟩ := HK1.out.addr hta
                    obtain ⟨bb, ob, rfl, hbb⟩ := HK2.out.addr htb
                    obtain ⟨_, aka, cka, p0, p1, p2, p3, hva⟩ := HK1.out.cells hta
                    obtain ⟨_, akb, ckb, q0, q1, q2, q3, hvb⟩ := HK2.out.cells htb
                    rw [Nat.zero_add] at p0 p1 p2 p3 q0 q1 q2 q3
                    have hna : ba < W.heap.size ∧ ba ∉ p :: v.ownBlock.toList := ⟨hba.1, foot_not hba⟩
                    have hnb : bb < W.heap.size ∧ bb ∉ p :: v.ownBlock.toList := ⟨hbb.1, foot_not hbb⟩
                    replace p0 := (HCI.out.1.cell (p := ⟨ba, oa + i * 4, none⟩) hna.1 hna.2).trans p0
                    replace p1 := (HCI.out.1.cell (p := ⟨ba, oa + i * 4 + 1, none⟩) hna.1 hna.2).trans p1
                    replace p2 := (HCI.out.1.cell (p := ⟨ba, oa + i * 4 + 2, none⟩) hna.1 hna.2).trans p2
                    replace p3 := (HCI.out.1.cell (p := ⟨ba, oa + i * 4 + 3, none⟩) hna.1 hna.2).trans p3
                    replace q0 := (HCI.out.1.cell (p := ⟨bb, ob + i * 4, none⟩) hnb.1 hnb.2).trans q0
                    replace q1 := (HCI.out.1.cell (p := ⟨bb, ob + i * 4 + 1, none⟩) hnb.1 hnb.2).trans q1
                    replace q2 := (HCI.out.1.cell (p := ⟨bb, ob + i * 4 + 2, none⟩) hnb.1 hnb.2).trans q2
                    replace q3 := (HCI.out.1.cell (p := ⟨bb, ob + i * 4 + 3, none⟩) hnb.1 hnb.2).trans q3
                    have keep : ∀ {t : Ty} {x : Value}, TyIs W (Rr W p v) t x → TyIs wr.drew (Rr wr.drew p vi) t x := fun h' => (h'.stepped HCI.out).rr ((Below.refl _ _).drew)
                    have HCALL := Lib.hid (ih ri ta tb _ _ wr.drew vi Li si (by omega) (by omega) (by omega) (HSI.out.below ((Below.refl _ _).drew)) (keep hva) (keep hvb))
                    have HST : Hid (pairsF (pairF f) (si, ri) ((l.drop i).map (Ty.sub s)) ((l'.drop i).map (Ty.sub s)) = if (pairF f (si, ri) ta tb).1 = 0 then pairsF (pairF f) (pairF f (si, ri) ta tb).2 ((l.drop (i + 1)).map (Ty.sub s)) ((l'.drop (i + 1)).map (Ty.sub s)) else pairF f (si, ri) ta tb) := by
                      show _ = _
                      rw [pairsF_step hta htb, pairF_congr (a := ta.sub s) (a' := ta) (b := tb.sub s) (b' := tb) (HGI.out.sub ta) (HGI.out.sub tb)]
                    have hmd := pairF_made f (si, ri) ta tb HSI.out.sol.idem
                    have HMD := Lib.hid (And.intro hmd.grows hmd.left)
                    clear hva hvb hta htb keep hmd hna hnb
                    unfold tval RPairEnd at HCALL
                    generalize pairF f (si, ri) ta tb = res at HCALL HST HMD
                    obtain ⟨ee, s9, r9⟩ := res
                    simp only at HCALL HST HMD
                    go_wp2
                    refine region_tail 11 (by kernel_rfl) (by kernel_rfl) ?_
                    simp only [List.take_succ_cons, List.take_zero, List.drop_succ_cons, List.drop_zero]
                    repeat (refine wpStill_step (fun K hK => ?_); go_simp; (try go_bits); (refine hK _ ?_; clear hK K))
                    refine wpStill_nil ?_
                    by_cases hee : ee = 0
                    · subst hee
                      go_wp2_with (go_at_call 37; refine HCALL.out.mono ?_; clear HCALL; rintro e w11 ⟨v11, L11, rfl, hsv, hn11, hc11⟩; have HSV11 := Lib.hid hsv; have HN11 := Lib.hid hn11; have HC11 := Lib.hid hc11; clear hsv hn11 hc11)
                      go_roundg (gk - 1)
                      case measure => omega
                      case rel =>
                        refine ⟨i + 1, v11, L11, s9, r9, by go_num, by omega, HSV11.out, by have := HN11.out; omega, by have h := HMD.out.2; omega, HGI.out.trans HMD.out.1, ?_, (HCI.out.trans (.made vi ((Below.refl _ _).drew))).trans HC11.out⟩
                        rw [HPI.out, HST.out]; simp
                    · have t1 : (ee == 0) = false := by simpa using hee
                      have t2 : (ee != 0) = true := by simp [bne, t1]
                      have HEE := Lib.hid hee
                      clear hee
                      go_wp2_with (go_at_call 37; refine HCALL.out.mono ?_; clear HCALL; rintro e w11 ⟨v11, L11, rfl, hsv, hn11, hc11⟩; have HSV11 := Lib.hid hsv; have HN11 := Lib.hid hn11; have HC11 := Lib.hid hc11; clear hsv hn11 hc11)
                      go_ret
                      rw [hres.out, HPI.out, HST.out, if_neg HEE.out]
                      exact ⟨v11, L11, rfl, HSV11.out, by have := HN11.out; simp at this ⊢; omega, (HCW2.out.trans (HCI.out.trans (.made vi ((Below.refl _ _).drew)))).trans HC11.out⟩
                  · obtain rfl : i = l'.length := by omega
                    have hx1 : ¬ (l'.length : Int) < (l.length : Int) := by have := HLL.out; omega
                    have hx2 : ¬ l'.length < l.length := by have := HLL.out; omega
                    go_wp2
                    go_ret
                    rw [hres.out, HPI.out, List.drop_of_length_le (by have := HLL.out; omega), List.drop_length, List.map_nil, pairsF]
                    exact ⟨vi, Li, rfl, HSI.out, by simp; omega, HCW2.out.trans HCI.out⟩
              · have hres : Hid (pairF (f + 1) (s, r + 1) a b = (11, s, r)) := by show _ = _; rw [hpt.out, if_neg (fun h => hll h.2)]
                subst hcd
                go_wp2
                go_ret
                rw [hres.out]
                exact ⟨v, L, rfl, HSW.out, by simp, HCW2.out⟩
            · have hres : Hid (pairF (f + 1) (s, r + 1) a b = (11, s, r)) := by show _ = _; rw [hpt.out, if_neg (fun h => hcd h.1)]
              have h3' : ¬ c.toList = d.toList := fun e => hcd (text_inj e)
              clear hcd
              go_wp2
              go_ret
              rw [hres.out]
              exact ⟨v, L, rfl, HSW.out, by simp, HCW2.out⟩
end Go.Proofs.YthchkekegkhanaaDoor
