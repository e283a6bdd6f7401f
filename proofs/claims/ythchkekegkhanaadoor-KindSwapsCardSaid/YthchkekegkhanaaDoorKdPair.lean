/- The program's pair. -/
import Derived.Test.YthchkekegkhanaaDoorKdBind
import Derived.Deep.RegionLaw
namespace Go.Proofs.YthchkekegkhanaaDoor
open Go.RowKit Go.Maps
set_option linter.unusedVariables false
variable {R : Nat → Prop}

theorem pairF_congr {f : Nat} {z : St} {a a' b b' : Ty} (h1 : a.sub z.1 = a'.sub z.1) (h2 : b.sub z.1 = b'.sub z.1) : pairF f z a b = pairF f z a' b' := by
  obtain ⟨s, r⟩ := z
  simp only at h1 h2
  cases f with
  | zero => rw [pairF, pairF]
  | succ f =>
    cases r with
    | zero => rw [pairF, pairF]
    | succ r => rw [pairF, pairF, h1, h2]
theorem pairsF_step {g : St → Ty → Ty → Int × St} {z : St} {la lb : List Ty} {s : Int → Ty} {i : Nat} {a b : Ty} (ha : la[i]? = some a) (hb : lb[i]? = some b) :
    pairsF g z ((la.drop i).map (Ty.sub s)) ((lb.drop i).map (Ty.sub s)) = if (g z (a.sub s) (b.sub s)).1 = 0 then pairsF g (g z (a.sub s) (b.sub s)).2 ((la.drop (i + 1)).map (Ty.sub s)) ((lb.drop (i + 1)).map (Ty.sub s)) else g z (a.sub s) (b.sub s) := by
  have e1 : la.drop i = a :: la.drop (i + 1) := by
    have h := (List.getElem?_eq_some_iff.1 ha).1
    rw [List.drop_eq_getElem_cons h]; congr 1; exact Option.some.inj ((List.getElem?_eq_getElem h).symm.trans ha)
  have e2 : lb.drop i = b :: lb.drop (i + 1) := by
    have h := (List.getElem?_eq_some_iff.1 hb).1
    rw [List.drop_eq_getElem_cons h]; congr 1; exact Option.some.inj ((List.getElem?_eq_getElem h).symm.trans hb)
  rw [e1, e2, List.map_cons, List.map_cons, pairsF]

def PairEnd (R : Nat → Prop) (w : World) (p bm N n : Nat) (fr : Int) (r : Nat) (res : Int × St) (e : Ending) (w' : World) : Prop :=
  ∃ σ' n', e = .returned (.int .i64 res.1) ∧ Solv R w' p bm N n' fr (10000 - (res.2.2 : Int)) σ' res.2.1 ∧ n' + res.2.2 ≤ n + r ∧ Chg [p, bm] w w'
def PairLoop (R : Nat → Prop) (p bm N n : Nat) (fr : Int) (r : Nat) (g : St → Ty → Ty → Int × St) (s : Int → Ty) (la lb : List Ty) (W : World) (gk : Nat) (s79 : Value) (wr : World) : Prop :=
  ∃ (i : Nat) (σi : Int → Option Ty) (si : Int → Ty) (ri ni : Nat), s79 = .int .i64 i ∧ i + gk = lb.length ∧ Solv R wr p bm N ni fr (10000 - (ri : Int)) σi si ∧ ni + ri ≤ n + r ∧ ri ≤ r ∧ Grows s si ∧
    pairsF g (s, r) (la.map (Ty.sub s)) (lb.map (Ty.sub s)) = pairsF g (si, ri) ((la.drop i).map (Ty.sub s)) ((lb.drop i).map (Ty.sub s)) ∧ Chg [p, bm] W wr
/-- The cells of two boxes, written. -/
theorem eight_ret {w : World} {H : Nat} {a b c d a' b' c' d' y0 y1 y2 y3 x0 x1 x2 x3 : Value} {t t' : TypeId} (h : w.heap[H]? = some (.cells #[a, b, c, d] t (0, 0))) (h' : w.heap[H + 1]? = some (.cells #[a', b', c', d'] t' (0, 0))) :
    ∃ W, W = ((((((((w.setCell ⟨H, 0, none⟩ y0).setCell ⟨H, 1, none⟩ y1).setCell ⟨H, 2, none⟩ y2).setCell ⟨H, 3, none⟩ y3).setCell ⟨H + 1, 0, none⟩ x0).setCell ⟨H + 1, 1, none⟩ x1).setCell ⟨H + 1, 2, none⟩ x2).setCell ⟨H + 1, 3, none⟩ x3) ∧
      W.heap[H]? = some (.cells #[y0, y1, y2, y3] t (0, 0)) ∧ W.heap[H + 1]? = some (.cells #[x0, x1, x2, x3] t' (0, 0)) ∧ Chg [H, H + 1] w W := by
  obtain ⟨z1, z2⟩ := four_ret (y0 := y0) (y1 := y1) (y2 := y2) (y3 := y3) h
  have h2 := (z2.block (H + 1) (lt_of_block h') (by simp)).trans h'
  obtain ⟨z3, z4⟩ := four_ret (y0 := x0) (y1 := x1) (y2 := x2) (y3 := x3) h2
  exact ⟨_, rfl, (z4.block H (lt_of_block z1) (by simp)).trans z1, z3, (z2.mono (by simp)).trans z4 (fun k hk => .inl (by simp at hk; simp [hk]))⟩
theorem Solv.count {w : World} {p bm N n : Nat} {fr pr : Int} {σ : Int → Option Ty} {s : Int → Ty} (h : Solv R w p bm N n fr pr σ s) (x y : Int) (hxy : x = y) : Solv R (w.setCell ⟨p, 2, none⟩ (.int .i64 x)) p bm N n fr y σ s ∧ Chg [p] w (w.setCell ⟨p, 2, none⟩ (.int .i64 x)) := by
  subst hxy
  have hc := chg1_set w p 2 (.int .i64 x)
  refine ⟨⟨?_, ?_, h.sol, h.lp, h.lb, h.ne, Nat.le_trans h.hN hc.size⟩, hc⟩
  · exact (setc_block h.hdr).trans rfl
  · obtain ⟨f, hf, hk⟩ := h.map
    refine ⟨f, hf.chg hc (by have := h.ne; simpa using Ne.symm this), fun k => ?_⟩
    rcases hk k with h1 | ⟨t, v, h1, h2, h3⟩
    · exact .inl h1
    · exact .inr ⟨t, v, h1, h2, h3.chg hc (fun b hb => ⟨by have := hb.1; have := h.hN; omega, by have := hb.2.1; simpa using this⟩)⟩
def PairHead (R : Nat → Prop) (w : World) (p bm N n : Nat) (fr : Int) (r : Nat) (σ : Int → Option Ty) (s : Int → Ty) (a b : Ty) (W : World) : Prop :=
  ∃ u x aou capu aox capx, W.heap[w.heap.size]? = some (.cells #[.int .i64 u.op, .int .i64 u.num, .string u.text, .slice aou u.kids.length capu] 25 (0, 0)) ∧ W.heap[w.heap.size + 1]? = some (.cells #[.int .i64 x.op, .int .i64 x.num, .string x.text, .slice aox x.kids.length capx] 25 (0, 0)) ∧
    Solv R W p bm N n fr (10000 - (r : Int)) σ s ∧ TyIs W (Tr R N p bm) u (tval u aou capu) ∧ TyIs W (Tr R N p bm) x (tval x aox capx) ∧ HeadOf σ s a u ∧ HeadOf σ s b x ∧ Chg [p, bm] w W
theorem pair_head {w W1 w5 w7 W : World} {p bm N n r : Nat} {fr : Int} {σ : Int → Option Ty} {s : Int → Ty} {a b u x : Ty} {aou aox : Option Addr} {capu capx : Nat} (hN : N ≤ w.heap.size) (hs : W1.heap.size = w.heap.size + 2) (hsv : Solv R W1 p bm N n fr (10000 - (r : Int)) σ s) (hc : Chg [p, bm] w W1)
    (h7 : Below W1.heap.size W1 w7) (h57 : Below w5.heap.size w5 w7) (hu : TyIs w5 (Tr R N p bm) u (tval u aou capu)) (hx : TyIs w7 (Tr R N p bm) x (tval x aox capx)) (hou : HeadOf σ s a u) (hox : HeadOf σ s b x)
    (zA : W.heap[w.heap.size]? = some (.cells #[.int .i64 u.op, .int .i64 u.num, .string u.text, .slice aou u.kids.length capu] 25 (0, 0))) (zB : W.heap[w.heap.size + 1]? = some (.cells #[.int .i64 x.op, .int .i64 x.num, .string x.text, .slice aox x.kids.length capx] 25 (0, 0)))
    (hcW : Chg [w.heap.size, w.heap.size + 1] w7 W) (h5 : N ≤ w5.heap.size := by omega) : PairHead R w p bm N n fr r σ s a b W := by
  have h7s := h7.size
  have hbx : Below w.heap.size W1 W := (h7.mono (by omega)).trans (hcW.below (B := w.heap.size) (by omega) (by simp))
  refine ⟨u, x, aou, capu, aox, capx, zA, zB, hsv.below (hbx.mono hN), ?_, ?_, hou, hox, hc.trans ((hcW.mono (F' := [w.heap.size, w.heap.size + 1]) (by simp))  |> fun h => ((below_chg h7).mono (F' := [w.heap.size, w.heap.size + 1]) (by simp)).trans h (fun k hk => .inl hk)) (fun k hk => .inr (by simp at hk; omega))⟩
  · exact (hu.below h57 (fun b hb => by have := hb.1; omega)).chg hcW (fun b hb => ⟨by have := hb.1; omega, by have := hb.1; simp; omega⟩)
  · exact hx.chg hcW (fun b hb => ⟨by have := hb.1; omega, by have := hb.1; simp; omega⟩)
theorem bindF_left (s : Int → Ty) (r : Nat) (m : Int) (y : Ty) : (bindF s r m y).2.2 = r := by unfold bindF; split; rfl; split <;> rfl
theorem pair_bind {w W w9 : World} {p bm N n n9 r : Nat} {fr m : Int} {σ9 : Int → Option Ty} {s : Int → Ty} {y : Ty} (h9 : Solv R w9 p bm N n9 fr (10000 - (r : Int)) σ9 ((bindF s r m y).1, (bindF s r m y).2.1).2) (hn : n9 ≤ n + 1) (hc9 : Chg [bm] W w9) (hc : Chg [p, bm] w W) :
    PairEnd R w p bm N n fr (r + 1) (bindF s r m y) (.returned (.int .i64 (bindF s r m y).1)) w9 := by
  refine ⟨σ9, n9, rfl, ?_, ?_, hc.trans hc9 (fun k hk => .inl (by simp at hk; simp [hk]))⟩
  · rw [bindF_left]; exact h9
  · rw [bindF_left]; omega
set_option maxRecDepth 100000 in
set_option maxHeartbeats 3200000 in
theorem pair_walk {p bm N : Nat} {fr : Int} (f : Nat) : ∀ (r n : Nat) (a b : Ty) (va vb : Value) (w : World) (σ : Int → Option Ty) (s : Int → Ty), r < f → r ≤ 10000 → n + r < 1000000000 → Solv R w p bm N n fr (10000 - (r : Int)) σ s → TyIs w (Tr R N p bm) a va → TyIs w (Tr R N p bm) b vb →
    Calls Tryd.prog 34 #[.pointer (some ⟨p, 0, none⟩), va, vb] w (PairEnd R w p bm N n fr r (pairF f (s, r) a b)) := by
  induction f with
  | zero => intro r n a b va vb w σ s h; omega
  | succ f ih =>
    intro r n a b va vb w σ s hrf hr1 hnr h ha hb
    obtain ⟨aoa, capa, rfl⟩ := ha.form
    obtain ⟨aob, capb, rfl⟩ := hb.form
    have hN := h.hN
    have hlp := h.lp
    have hlb := h.lb
    obtain ⟨w0, hw0⟩ : ∃ w0, w0 = (w.alloc (.cells #[.int .i64 a.op, .int .i64 a.num, .string a.text, .slice aoa a.kids.length capa] 25)).alloc (.cells #[.int .i64 b.op, .int .i64 b.num, .string b.text, .slice aob b.kids.length capb] 25) := ⟨_, rfl⟩
    have hb0 : Below w.heap.size w w0 := by rw [hw0]; exact ((Below.refl _ _).alloc (Nat.le_refl _) _).alloc (by simp) _
    have hs0 : w0.heap.size = w.heap.size + 2 := by rw [hw0]; simp
    have z0 : w0.heap[w.heap.size]? = some (.cells #[.int .i64 a.op, .int .i64 a.num, .string a.text, .slice aoa a.kids.length capa] 25 (0, 0)) := by rw [hw0]; exact (heap_alloc_old _ _ (by simp)).trans (heap_alloc_new _ _)
    have z1 : w0.heap[w.heap.size + 1]? = some (.cells #[.int .i64 b.op, .int .i64 b.num, .string b.text, .slice aob b.kids.length capb] 25 (0, 0)) := by rw [hw0]; exact heap_new2 _ _ _
    have hsv := h.below (hb0.mono hN)
    obtain ⟨e0, e1, e2, e3⟩ := hdr3_cells hsv.hdr
    have HB0 := Lib.hid hb0
    have HS0 := Lib.hid hs0
    cases r with
    | zero =>
      have hpr : (10000 : Int) - ((0 : Nat) : Int) = 10000 := by omega
      rw [hpr] at e2
      have HSV := Lib.hid hsv
      clear h ha hb hb0 hs0 z0 z1 hsv hpr
      unfold tval
      go_enter Tryd.func34, Tryd.ntmps34
      go_upto_region 1 with fail
      rw [← hw0]
      clear hw0
      go_wp2
      go_ret
      rw [pairF]
      exact ⟨σ, n, rfl, HSV.out, by simp, (below_chg HB0.out).mono (by simp)⟩
    | succ r =>
      obtain ⟨pr, hpr⟩ : ∃ pr : Int, 10000 - ((r + 1 : Nat) : Int) = pr := ⟨_, rfl⟩
      rw [hpr] at e2 hsv
      have g1 : (pr == 10000) = false := by simp; omega
      have g2 : 0 ≤ pr := by omega
      have g3 : pr < 10000 := by omega
      have hpr2 : pr + 1 = 10000 - (r : Int) := by omega
      obtain ⟨hsv1, hc1⟩ := hsv.count (pr + 1) _ hpr2
      have HPR2 := Lib.hid hpr2
      have hta : TyIs (w0.setCell ⟨p, 2, none⟩ (.int .i64 (pr + 1))) (Tr R N p bm) a (tval a aoa capa) := (ha.below hb0 (fun b hb => by have := hb.1; omega)).chg hc1 (fun b hb => ⟨by have := hb.1; omega, by have := hb.2.1; simpa using this⟩)
      have htb : TyIs (w0.setCell ⟨p, 2, none⟩ (.int .i64 (pr + 1))) (Tr R N p bm) b (tval b aob capb) := (hb.below hb0 (fun b hb => by have := hb.1; omega)).chg hc1 (fun b hb => ⟨by have := hb.1; omega, by have := hb.2.1; simpa using this⟩)
      have za := (hc1.block w.heap.size (by omega) (by simp; omega)).trans z0
      have zb := (hc1.block (w.heap.size + 1) (by omega) (by simp; omega)).trans z1
      have hcw : Chg [p, bm] w (w0.setCell ⟨p, 2, none⟩ (.int .i64 (pr + 1))) := ((below_chg hb0).mono (by simp)).trans hc1 (fun k hk => .inl (by simp at hk; simp [hk]))
      have hs1 : (w0.setCell ⟨p, 2, none⟩ (.int .i64 (pr + 1))).heap.size = w.heap.size + 2 := by simp [World.setCell, hs0]
      unfold tval
      go_enter Tryd.func34, Tryd.ntmps34
      go_upto_region 1 with fail
      rw [← hw0]
      clear hw0 h ha hb hb0 hpr hsv hpr2 z0 z1 hc1 hs0
      go_upto_region 4 with fail
      generalize (w0.setCell ⟨p, 2, none⟩ (.int .i64 (pr + 1))) = W1 at hsv1 hta htb za zb hcw hs1 ⊢
      have HHA : Hid (∀ W, Below W1.heap.size W1 W → Calls Tryd.prog 47 #[.pointer (some ⟨p, 0, none⟩), tval a aoa capa] W (HeadEnd W (Tr R N p bm) σ s a)) := fun W hW => head_any (hsv1.below (hW.mono (show N ≤ W1.heap.size by omega))) a _ (hta.below hW (fun b hb => by have := hb.1; omega))
      have HHB : Hid (∀ W, Below W1.heap.size W1 W → Calls Tryd.prog 47 #[.pointer (some ⟨p, 0, none⟩), tval b aob capb] W (HeadEnd W (Tr R N p bm) σ s b)) := fun W hW => head_any (hsv1.below (hW.mono (show N ≤ W1.heap.size by omega))) b _ (htb.below hW (fun b hb => by have := hb.1; omega))
      unfold tval HeadEnd at HHA HHB
      obtain ⟨c0, c1, c2, c3, c4⟩ := hdr4_cells za
      obtain ⟨d0, d1, d2, d3, d4⟩ := hdr4_cells zb
      have ZA := Lib.hid za
      have ZB := Lib.hid zb
      have HSV := Lib.hid hsv1
      have HCW := Lib.hid hcw
      have HS1 := Lib.hid hs1
      clear hsv1 hta htb za zb hcw hs1 e0 e1 e2 e3
      go_cut [] (fun wx => PairHead R w p bm N n fr r σ s a b wx)
      case first =>
       go_region_law (first
        | (refine step_callw (w := W1.drew) (by rfl) 47 #[.pointer (some ⟨p, 0, none⟩), .agg #[.int .i64 a.op, .int .i64 a.num, .string a.text, .slice aoa a.kids.length capa]] ?_ (HHA.out W1.drew (Below.refl _ _).drew) ?_; go_simp; rintro e w5 ⟨u, aou, capu, rfl, hu, huo, hb5⟩; refine ⟨_, rfl, ?_⟩; replace hb5 : Below W1.heap.size W1 w5 := ((Below.refl _ _).drew).trans hb5; have za5 := (hb5.block w.heap.size (lt_of_block ZA.out)).trans ZA.out; have zb5 := (hb5.block (w.heap.size + 1) (lt_of_block ZB.out)).trans ZB.out; obtain ⟨f0, f1, f2, f3, f4⟩ := hdr4_cells za5; obtain ⟨g0, g1', g2', g3', g4⟩ := hdr4_cells zb5; have B5 := Lib.hid hb5; have U5 := Lib.hid hu; have UO := Lib.hid huo; clear hb5 hu huo za5 zb5)
        | (refine step_callw (w := w5) (by rfl) 47 #[.pointer (some ⟨p, 0, none⟩), .agg #[.int .i64 b.op, .int .i64 b.num, .string b.text, .slice aob b.kids.length capb]] ?_ (HHB.out w5 B5.out) ?_; go_simp; rintro e w7 ⟨x, aox, capx, rfl, hx, hxo, hb7⟩; refine ⟨_, rfl, ?_⟩; have B57 := Lib.hid hb7; replace hb7 : Below W1.heap.size W1 w7 := B5.out.trans (hb7.mono B5.out.size); have za7 := (hb7.block w.heap.size (lt_of_block ZA.out)).trans ZA.out; have zb7 := (hb7.block (w.heap.size + 1) (lt_of_block ZB.out)).trans ZB.out; obtain ⟨h0, h1, h2, h3, h4⟩ := hdr4_cells za7; obtain ⟨i0, i1, i2, i3, i4⟩ := hdr4_cells zb7; have hs7 := hb7.size; have hs57 := B5.out.size; have B7 := Lib.hid hb7; have X7 := Lib.hid hx; have XO := Lib.hid hxo; have ZA7 := Lib.hid za7; have ZB7 := Lib.hid zb7; clear hb7 hx hxo za7 zb7))
       all_goals go_wp2
       all_goals go_meet
       all_goals
        obtain ⟨W, hW, zA, zB, hcW⟩ := eight_ret (y0 := .int .i64 u.op) (y1 := .int .i64 u.num) (y2 := .string u.text) (y3 := .slice aou u.kids.length capu) (x0 := .int .i64 x.op) (x1 := .int .i64 x.num) (x2 := .string x.text) (x3 := .slice aox x.kids.length capx) ZA7.out ZB7.out
        rw [← hW]
        exact pair_head hN HS1.out HSV.out HCW.out B7.out B57.out U5.out X7.out UO.out XO.out zA zB hcW (by have := HS1.out; omega)
      case rest =>
        obtain ⟨u, x, aou, capu, aox, capx, zA, zB, hsvW, huW, hxW, hou, hox, hcW⟩ := hcut
        rename World => W
        have hs1 := HS1.out
        have hcs := hcW.size
        have hPF : Hid (pairF (f + 1) (s, r + 1) a b = pairT (pairF f) s r (u.sub s) (x.sub s)) := by show _ = _; rw [pairF, hou.eq, hox.eq]
        have HUW := Lib.hid huW
        have HXW := Lib.hid hxW
        have HSW := Lib.hid hsvW
        have HCW2 := Lib.hid hcW
        have hfu := hou.free
        have hfx := hox.free
        obtain ⟨c0, c1, c2, c3, c4⟩ := hdr4_cells zA
        obtain ⟨d0, d1, d2, d3, d4⟩ := hdr4_cells zB
        have ZA2 := Lib.hid zA
        have ZB2 := Lib.hid zB
        clear huW hxW hsvW hcW HHA HHB HSV HCW ZA ZB HS1 zA zB hou hox
        cases u with
        | var m =>
          have hfm := Lib.hid (hfu m rfl)
          have hsm := HSW.out.sol.free m hfm.out
          have hwm : (Lit.int .i64 m).wf = true := by obtain ⟨_, _, _, _, h, _⟩ := HUW.out.var; exact h
          have HBI := Lib.hid (bind_any HSW.out (by omega) x _ HXW.out hfm.out hwm r)
          simp only [Ty.op, Ty.num, Ty.text, Ty.kids] at c0 c1 c2 c3
          cases x with
          | var m' =>
            have hsm' := HSW.out.sol.free m' (hfx m' rfl)
            simp only [Ty.op, Ty.num, Ty.text, Ty.kids] at d0 d1 d2 d3
            by_cases hmm : m = m'
            · subst hmm
              have hres : Hid (pairF (f + 1) (s, r + 1) a b = (0, s, r)) := by show _ = _; rw [hPF.out, Ty.sub, hsm, pairT, if_pos rfl]
              clear hfu hfx hsm hsm' HBI hPF
              go_wp2
              go_ret
              rw [hres.out]
              exact ⟨σ, n, rfl, HSW.out, by simp, HCW2.out⟩
            · have hres : Hid (pairF (f + 1) (s, r + 1) a b = bindF s r m ((Ty.var m').sub s)) := by show _ = _; rw [hPF.out, Ty.sub, Ty.sub, hsm, hsm', pairT, if_neg hmm]
              have t1 : (m == m') = false := by simpa using hmm
              clear hfu hfx hsm hsm' hPF hmm
              unfold tval at HBI
              simp only [Ty.op, Ty.num, Ty.text, Ty.kids] at HBI
              go_wp2_with (go_at_call 48; refine HBI.out.mono ?_; clear HBI; rintro e w9 hbe; obtain ⟨σ9, n9, rfl, hsv9, hn9, hc9⟩ := hbe; have HSV9 := Lib.hid hsv9; have HN9 := Lib.hid hn9; have HC9 := Lib.hid hc9; clear hsv9 hn9 hc9)
              go_ret
              rw [hres.out]
              exact pair_bind HSV9.out HN9.out HC9.out HCW2.out
          | con c l =>
            simp only [Ty.op, Ty.num, Ty.text, Ty.kids] at d0 d1 d2 d3
            have hres : Hid (pairF (f + 1) (s, r + 1) a b = bindF s r m ((Ty.con c l).sub s)) := by show _ = _; rw [hPF.out, Ty.sub, Ty.sub_con, hsm, pairT]
            clear hfu hfx hsm hPF
            unfold tval at HBI
            simp only [Ty.op, Ty.num, Ty.text, Ty.kids] at HBI
            go_wp2_with (go_at_call 48; refine HBI.out.mono ?_; clear HBI; rintro e w9 hbe; obtain ⟨σ9, n9, rfl, hsv9, hn9, hc9⟩ := hbe; have HSV9 := Lib.hid hsv9; have HN9 := Lib.hid hn9; have HC9 := Lib.hid hc9; clear hsv9 hn9 hc9)
            go_ret
            rw [hres.out]
            exact pair_bind HSV9.out HN9.out HC9.out HCW2.out
        | con c l =>
          simp only [Ty.op, Ty.num, Ty.text, Ty.kids] at c0 c1 c2 c3
          cases x with
          | var m =>
            have hfm := Lib.hid (hfx m rfl)
            have hsm := HSW.out.sol.free m hfm.out
            have hwm : (Lit.int .i64 m).wf = true := by obtain ⟨_, _, _, _, h, _⟩ := HXW.out.var; exact h
            have HBI := Lib.hid (bind_any HSW.out (by omega) (.con c l) _ HUW.out hfm.out hwm r)
            simp only [Ty.op, Ty.num, Ty.text, Ty.kids] at d0 d1 d2 d3
            have hres : Hid (pairF (f + 1) (s, r + 1) a b = bindF s r m ((Ty.con c l).sub s)) := by show _ = _; rw [hPF.out, Ty.sub, Ty.sub_con, hsm, pairT]
            clear hfu hfx hsm hPF
            unfold tval at HBI
            simp only [Ty.op, Ty.num, Ty.text, Ty.kids] at HBI
            go_wp2_with (go_at_call 48; refine HBI.out.mono ?_; clear HBI; rintro e w9 hbe; obtain ⟨σ9, n9, rfl, hsv9, hn9, hc9⟩ := hbe; have HSV9 := Lib.hid hsv9; have HN9 := Lib.hid hn9; have HC9 := Lib.hid hc9; clear hsv9 hn9 hc9)
            go_ret
            rw [hres.out]
            exact pair_bind HSV9.out HN9.out HC9.out HCW2.out
          | con d l' =>
            simp only [Ty.op, Ty.num, Ty.text, Ty.kids] at d0 d1 d2 d3
            have hpt : Hid (pairF (f + 1) (s, r + 1) a b = if c = d ∧ l.length = l'.length then pairsF (pairF f) (s, r) (l.map (Ty.sub s)) (l'.map (Ty.sub s)) else (11, s, r)) := by show _ = _; rw [hPF.out, Ty.sub_con, Ty.sub_con, pairT, List.length_map, List.length_map]
            clear hfu hfx hPF
            obtain ⟨ao1, cp1, hv1, hle1, hmx1, _, _, hk1⟩ := HUW.out.con
            obtain ⟨ao2, cp2, hv2, hle2, hmx2, _, _, hk2⟩ := HXW.out.con
            have hv1' : Value.slice aou l.length capu = .slice ao1 l.length cp1 := by
              have := congrArg (fun v => match v with | Value.agg a => a[3]? | _ => none) hv1
              simpa [tval, Ty.kids] using this
            have hv2' : Value.slice aox l'.length capx = .slice ao2 l'.length cp2 := by
              have := congrArg (fun v => match v with | Value.agg a => a[3]? | _ => none) hv2
              simpa [tval, Ty.kids] using this
            cases hv1'
            cases hv2'
            unfold maxLen at hmx1 hmx2
            have HK1 := Lib.hid hk1
            have HK2 := Lib.hid hk2
            clear hv1 hv2 hk1 hk2
            by_cases hcd : c = d
            · by_cases hll : l.length = l'.length
              · subst hcd
                have HLL := Lib.hid hll
                have hres : Hid (pairF (f + 1) (s, r + 1) a b = pairsF (pairF f) (s, r) (l.map (Ty.sub s)) (l'.map (Ty.sub s))) := by show _ = _; rw [hpt.out, if_pos ⟨rfl, hll⟩]
                go_wp2
                clear hll hpt d0 d1 d2 d3 d4 c0 c1 c2 c3 c4
                have HL : Hid (PairLoop R p bm N n fr r (pairF f) s l l' W l'.length (.int .i64 0) W) := ⟨0, σ, s, r, n, rfl, by omega, HSW.out, Nat.le_refl _, Nat.le_refl _, .refl HSW.out.sol.idem, rfl, Chg.refl _ _⟩
                go_loopg [79] l'.length (fun gk s79 wr => PairLoop R p bm N n fr r (pairF f) s l l' W gk s79 wr)
                case atStart => exact HL.out
                case round =>
                  clear HL
                  obtain ⟨i, σi, si, ri, ni, rfl, hik, hsi, hni, hri, hgi, hpi, hci⟩ := hrel
                  have hcis := hci.size
                  have zAi := (hci.block w.heap.size (lt_of_block ZA2.out) (by simp; omega)).trans ZA2.out
                  have zBi := (hci.block (w.heap.size + 1) (lt_of_block ZB2.out) (by simp; omega)).trans ZB2.out
                  simp only [Ty.op, Ty.num, Ty.text, Ty.kids] at zAi zBi
                  obtain ⟨c0, c1, c2, c3, c4⟩ := hdr4_cells zAi
                  obtain ⟨d0, d1, d2, d3, d4⟩ := hdr4_cells zBi
                  have HSI := Lib.hid hsi
                  have HGI := Lib.hid hgi
                  have HPI := Lib.hid hpi
                  have HCI := Lib.hid hci
                  clear hsi hgi hpi hci zAi zBi c0 c1 c2 d0 d1 d2
                  have g0 : (0 : Int) ≤ (i : Int) := by omega
                  by_cases hlt : i < l'.length
                  · have g1 : (i : Int) < (l'.length : Int) := by omega
                    have g5 : (i : Int) < (l.length : Int) := by have := HLL.out; omega
                    obtain ⟨tb, htb⟩ : ∃ u, l'[i]? = some u := ⟨_, List.getElem?_eq_getElem hlt⟩
                    obtain ⟨ta, hta⟩ : ∃ u, l[i]? = some u := ⟨_, List.getElem?_eq_getElem (by have := HLL.out; omega)⟩
                    obtain ⟨ba, oa, rfl, hba⟩ := HK1.out.addr hta
                    obtain ⟨bb, ob, rfl, hbb⟩ := HK2.out.addr htb
                    obtain ⟨_, aka, cka, p0, p1, p2, p3, hva⟩ := HK1.out.cells hta
                    obtain ⟨_, akb, ckb, q0, q1, q2, q3, hvb⟩ := HK2.out.cells htb
                    rw [Nat.zero_add] at p0 p1 p2 p3 q0 q1 q2 q3
                    have hna : ba < W.heap.size ∧ ba ∉ [p, bm] := ⟨by have := hba.1; omega, by have := hba.2; simp; exact ⟨this.1, this.2.1⟩⟩
                    have hnb : bb < W.heap.size ∧ bb ∉ [p, bm] := ⟨by have := hbb.1; omega, by have := hbb.2; simp; exact ⟨this.1, this.2.1⟩⟩
                    replace p0 := (HCI.out.cell (p := ⟨ba, oa + i * 4, none⟩) hna.1 hna.2).trans p0
                    replace p1 := (HCI.out.cell (p := ⟨ba, oa + i * 4 + 1, none⟩) hna.1 hna.2).trans p1
                    replace p2 := (HCI.out.cell (p := ⟨ba, oa + i * 4 + 2, none⟩) hna.1 hna.2).trans p2
                    replace p3 := (HCI.out.cell (p := ⟨ba, oa + i * 4 + 3, none⟩) hna.1 hna.2).trans p3
                    replace q0 := (HCI.out.cell (p := ⟨bb, ob + i * 4, none⟩) hnb.1 hnb.2).trans q0
                    replace q1 := (HCI.out.cell (p := ⟨bb, ob + i * 4 + 1, none⟩) hnb.1 hnb.2).trans q1
                    replace q2 := (HCI.out.cell (p := ⟨bb, ob + i * 4 + 2, none⟩) hnb.1 hnb.2).trans q2
                    replace q3 := (HCI.out.cell (p := ⟨bb, ob + i * 4 + 3, none⟩) hnb.1 hnb.2).trans q3
                    have keep : ∀ {t : Ty} {v : Value}, TyIs W (Tr R N p bm) t v → TyIs wr.drew (Tr R N p bm) t v := fun h' => (h'.chg HCI.out (fun b hb => ⟨by have := hb.1; omega, by have := hb.2; simp; exact ⟨this.1, this.2.1⟩⟩)).keep (fun _ h => h) fun _ _ => by simp
                    have HCALL := Lib.hid (ih ri ni ta tb _ _ wr.drew σi si (by omega) (by omega) (by omega) (HSI.out.below (below_drewN (Below.refl _ _) 1)) (keep hva) (keep hvb))
                    have HST : Hid (pairsF (pairF f) (si, ri) ((l.drop i).map (Ty.sub s)) ((l'.drop i).map (Ty.sub s)) = if (pairF f (si, ri) ta tb).1 = 0 then pairsF (pairF f) (pairF f (si, ri) ta tb).2 ((l.drop (i + 1)).map (Ty.sub s)) ((l'.drop (i + 1)).map (Ty.sub s)) else pairF f (si, ri) ta tb) := by
                      show _ = _
                      rw [pairsF_step hta htb, pairF_congr (a := ta.sub s) (a' := ta) (b := tb.sub s) (b' := tb) (HGI.out.sub ta) (HGI.out.sub tb)]
                    have hmd := pairF_made f (si, ri) ta tb HSI.out.sol.idem
                    have HMD := Lib.hid (And.intro hmd.grows hmd.left)
                    clear hva hvb hta htb keep hmd hna hnb
                    unfold tval PairEnd at HCALL
                    generalize pairF f (si, ri) ta tb = res at HCALL HST HMD
                    obtain ⟨ee, s9, r9⟩ := res
                    simp only at HCALL HST HMD
                    go_wp2
                    refine region_tail 11 (by kernel_rfl) (by kernel_rfl) ?_
                    simp only [List.take_succ_cons, List.take_zero, List.drop_succ_cons, List.drop_zero]
                    repeat (refine wpStill_step (fun K hK => ?_); go_simp; (try go_bits); (refine hK _ ?_; clear hK K))
                    refine wpStill_nil ?_
                    by_cases hee : ee = 0
                    · subst hee
                      go_wp2_with (go_at_call 34; refine HCALL.out.mono ?_; clear HCALL; rintro e w11 ⟨σ11, n11, rfl, hsv, hn11, hc11⟩; have HSV11 := Lib.hid hsv; have HN11 := Lib.hid hn11; have HC11 := Lib.hid hc11; clear hsv hn11 hc11)
                      go_roundg (gk - 1)
                      case measure => omega
                      case rel =>
                        refine ⟨i + 1, σ11, s9, r9, n11, by go_num, by omega, HSV11.out, by have := HN11.out; omega, by have h := HMD.out.2; omega, HGI.out.trans HMD.out.1, ?_, (HCI.out.drewN 1).trans HC11.out (fun k hk => .inl hk)⟩
                        rw [HPI.out, HST.out]; simp
                    · have t1 : (ee == 0) = false := by simpa using hee
                      have t2 : (ee != 0) = true := by simp [bne, t1]
                      have HEE := Lib.hid hee
                      clear hee
                      go_wp2_with (go_at_call 34; refine HCALL.out.mono ?_; clear HCALL; rintro e w11 ⟨σ11, n11, rfl, hsv, hn11, hc11⟩; have HSV11 := Lib.hid hsv; have HN11 := Lib.hid hn11; have HC11 := Lib.hid hc11; clear hsv hn11 hc11)
                      go_ret
                      rw [hres.out, HPI.out, HST.out, if_neg HEE.out]
                      exact ⟨σ11, n11, rfl, HSV11.out, by have := HN11.out; simp at this ⊢; omega, (HCW2.out.trans (HCI.out.drewN 1) (fun k hk => .inl hk)).trans HC11.out (fun k hk => .inl hk)⟩
                  · obtain rfl : i = l'.length := by omega
                    go_wp2
                    go_ret
                    rw [hres.out, HPI.out, List.drop_of_length_le (by have := HLL.out; omega), List.drop_length, List.map_nil, pairsF]
                    exact ⟨σi, ni, rfl, HSI.out, by simp; omega, HCW2.out.trans HCI.out (fun k hk => .inl hk)⟩
              · have hres : Hid (pairF (f + 1) (s, r + 1) a b = (11, s, r)) := by show _ = _; rw [hpt.out, if_neg (fun h => hll h.2)]
                subst hcd
                go_wp2
                go_ret
                rw [hres.out]
                exact ⟨σ, n, rfl, HSW.out, by simp, HCW2.out⟩
            · have hres : Hid (pairF (f + 1) (s, r + 1) a b = (11, s, r)) := by show _ = _; rw [hpt.out, if_neg (fun h => hcd h.1)]
              have h3' : ¬ c.toList = d.toList := fun e => hcd (text_inj e)
              clear hcd
              go_wp2
              go_ret
              rw [hres.out]
              exact ⟨σ, n, rfl, HSW.out, by simp, HCW2.out⟩
end Go.Proofs.YthchkekegkhanaaDoor
