/- The reference's Move: pairs in turn in one list. -/
import Derived.Test.YtofmbpmmgpbdbaaDoorPRow
import Derived.Deep.DeepCutAuto
namespace Go.Proofs.YtofmbpmmgpbdbaaDoor
open Go.RowKit Go.Maps Wr
set_option linter.unusedVariables false

def firstP : List (Int × Int) → Int → Option Int
  | [], _ => none
  | x :: l, n => if x.1 = n then some x.2 else firstP l n
def flatP : List (Int × Int) → List Int
  | [] => []
  | x :: l => x.1 :: x.2 :: flatP l
theorem flatP_len : ∀ l : List (Int × Int), (flatP l).length = 2 * l.length
  | [] => rfl
  | x :: l => by
    have := flatP_len l
    rw [flatP, List.length_cons, List.length_cons, List.length_cons]; omega
theorem flatP_get : ∀ {l : List (Int × Int)} {j : Nat} {x : Int × Int}, l[j]? = some x → (flatP l).getD (2 * j) 0 = x.1 ∧ (flatP l).getD (2 * j + 1) 0 = x.2
  | [], j, x, h => by cases h
  | y :: l, 0, x, h => by
    rw [List.getElem?_cons_zero] at h
    cases h
    simp [flatP, List.getD]
  | y :: l, j + 1, x, h => by
    rw [List.getElem?_cons_succ] at h
    have := flatP_get h
    rw [flatP, show 2 * (j + 1) = 2 * j + 1 + 1 by omega, List.getD_cons_succ, List.getD_cons_succ, show 2 * j + 1 + 1 + 1 = (2 * j + 1) + 1 + 1 by omega, List.getD_cons_succ, List.getD_cons_succ]
    exact this
theorem firstP_drop {l : List (Int × Int)} {j : Nat} {x : Int × Int} (n : Int) (h : l[j]? = some x) : firstP (l.drop j) n = if x.1 = n then some x.2 else firstP (l.drop (j + 1)) n := by
  have hi := (List.getElem?_eq_some_iff.1 h).1
  rw [List.drop_eq_getElem_cons hi, (List.getElem?_eq_some_iff.1 h).2, firstP]
theorem firstP_wf : ∀ {l : List (Int × Int)} {a c : Int}, (∀ x ∈ l, (Lit.int .i64 x.2).wf = true) → firstP l a = some c → (Lit.int .i64 c).wf = true
  | [], a, c, _, h => by cases h
  | x :: l, a, c, hw, h => by
    rw [firstP] at h
    split at h
    · cases h; exact hw x (by simp)
    · exact firstP_wf (fun y hy => hw y (by simp [hy])) h

def LkLoop (ps : List (Int × Int)) (n : Int) (W2 : World) (gk : Nat) (s6 : Value) (wr : World) : Prop :=
  ∃ j q : Nat, s6 = .int .i64 q ∧ q = 2 * j ∧ j + gk = ps.length ∧ firstP ps n = firstP (ps.drop j) n ∧ Below W2.heap.size W2 wr
def RmLoop (W6 : World) (f : Int → Option Int) (la : List VT) (gk : Nat) (s7 s8 : Value) (wr : World) : Prop :=
  ∃ (i : Nat) (done : List VT), s8 = .int .i64 i ∧ KRow wr W6.heap.size s7 done ∧ done.length = i ∧ i + gk = la.length ∧ VT.moves f la = (VT.moves f (la.drop i)).map (done ++ ·) ∧ Below W6.heap.size W6 wr

set_option maxRecDepth 100000 in
set_option maxHeartbeats 1600000 in
theorem refMove_walk (ps : List (Int × Int)) (M : Nat) (sv : Value) (hps : ps.length ≤ 1000) (hwp : ∀ x ∈ ps, (Lit.int .i64 x.2).wf = true) (k : Nat) : ∀ (t : VT) (v : Value) (w : World) (P : Nat → Prop), t.sz ≤ k → t.sz ≤ 100000 → ValIs w P t v → (∀ b, P b → b < w.heap.size) → IRow w M sv (flatP ps) →
    Calls Tryd.prog 21 #[v, sv] w (MoveEnd w (fun _ => False) (t.move (firstP ps))) := by
  induction k with
  | zero => intro t v w P hk; cases t; simp [VT.sz] at hk
  | succ k ih =>
    intro t v w P hk hsz ht hP hm
    cases t with
    | node ka na sa la =>
    unfold ValIs at ht
    obtain ⟨ao, cap, rfl, a1, a2, a3, a4, a5, a6, a7⟩ := ht
    obtain ⟨L, hL⟩ : ∃ L, (flatP ps).length = L := ⟨_, rfl⟩
    have hL2 : L = 2 * ps.length := by rw [← hL]; exact flatP_len ps
    obtain ⟨aol, cl, hsv, hcl⟩ := hm.form
    rw [hL] at hsv hcl
    subst hsv
    obtain ⟨W2, hW2⟩ : ∃ W2, W2 = (w.alloc (.cells #[.int .i64 ka, .int .i64 na, .string sa, .slice ao la.length cap] 24 (0, 0))).alloc Z4 := ⟨_, rfl⟩
    have hb2 : Below w.heap.size w W2 := by rw [hW2]; exact ((Below.refl _ _).alloc (Nat.le_refl _) _).alloc (by simp) _
    have hs2 : W2.heap.size = w.heap.size + 2 := by rw [hW2]; simp
    have z2V : W2.heap[w.heap.size]? = some (.cells #[.int .i64 ka, .int .i64 na, .string sa, .slice ao la.length cap] 24 (0, 0)) := by rw [hW2]; exact (Below.heap_alloc _ _ _ (by simp)).trans (World.alloc_heap_new _ _)
    have z2R : W2.heap[w.heap.size + 1]? = some Z4 := by
      rw [hW2]
      have := World.alloc_heap_new (w.alloc (.cells #[.int .i64 ka, .int .i64 na, .string sa, .slice ao la.length cap] 24 (0, 0))) Z4
      simpa using this
    obtain ⟨v0, v1, v2, v3, v4⟩ := hdr4_cells z2V
    obtain ⟨r0, r1, r2, r3, r4⟩ := hdr4_cells z2R
    have HM := Lib.hid hm
    have HMW := Lib.hid (hm.below hb2)
    have HW2 := Lib.hid hW2
    have B2 := Lib.hid hb2
    have S2 := Lib.hid hs2
    have ZV := Lib.hid z2V
    have ZR := Lib.hid z2R
    have HA7 := Lib.hid a7
    have HP := Lib.hid hP
    have HLL := Lib.hid hL
    have HL2 := Lib.hid hL2
    clear hL2 hb2 hs2 z2V z2R a7 hP hm hL
    cases hn : (if ka = 5 then firstP ps na else some na) with
    | none =>
      have h5 : ka = 5 := by by_cases h : ka = 5; exact h; rw [if_neg h] at hn; cases hn
      subst h5
      rw [if_pos rfl] at hn
      have HN := Lib.hid hn
      rw [move_none (by rw [if_pos rfl]; exact hn)]
      clear hn
      go_enter Tryd.func21, Tryd.ntmps21
      go_upto_if 13 with fail
      rw [← HW2.out]
      clear hW2
      go_wp2
      have HK : Hid (LkLoop ps na W2 ps.length (.int .i64 0) W2) := ⟨0, 0, rfl, rfl, by omega, rfl, Below.refl _ _⟩
      go_loopg [6] ps.length (fun gk s6 wr => LkLoop ps na W2 gk s6 wr)
      case atStart => exact HK.out
      case round =>
        clear HK
        obtain ⟨j, q, rfl, hq, hjk, hfp, hbr⟩ := hrel
        have zv := (hbr.block w.heap.size (lt_of_block ZV.out)).trans ZV.out
        have zr := (hbr.block (w.heap.size + 1) (lt_of_block ZR.out)).trans ZR.out
        clear v0 v1 v2 v3 v4 r0 r1 r2 r3 r4
        obtain ⟨v0, v1, v2, v3, v4⟩ := hdr4_cells zv
        obtain ⟨r0, r1, r2, r3, r4⟩ := hdr4_cells zr
        have ZVR := Lib.hid zv
        have ZRR := Lib.hid zr
        have HBR := Lib.hid hbr
        have HMR := Lib.hid (HMW.out.below hbr)
        clear hbr zv zr
        have HFP := Lib.hid hfp
        have HQ := Lib.hid hq
        clear hfp
        have g0 : (0 : Int) ≤ (q : Int) := by omega
        have g9 : (q : Int) ≤ 2000 := by omega
        by_cases hlt : j < ps.length
        · have g1 : (q : Int) < (L : Int) := by have := HL2.out; omega
          obtain ⟨x, hx⟩ : ∃ x, ps[j]? = some x := ⟨_, List.getElem?_eq_getElem hlt⟩
          have hd := firstP_drop na hx
          obtain ⟨g, rfl, p0⟩ := HMR.out.cell (i := q) (by rw [HLL.out]; have := HL2.out; omega)
          rw [hq, (flatP_get hx).1, ← hq] at p0
          have hne : ¬ x.1 = na := by intro h; rw [if_pos h] at hd; rw [← HFP.out, HN.out] at hd; cases hd
          rw [if_neg hne] at hd
          have HD := Lib.hid (HFP.out.trans hd)
          have hb1 : (x.1 != na) = true := by simpa using hne
          have hb3 : (x.1 == na) = false := by simpa using hne
          clear hd hx hq
          go_wp2
          go_quiet (fail)
          go_wp2
          go_roundg (gk - 1)
          case measure => omega
          case rel => exact ⟨j + 1, q + 2, by go_num, by have := HQ.out; omega, by omega, HD.out, below_drewN HBR.out _⟩
        · have g1 : ¬ q < L := by have := HL2.out; omega
          have g2 : (L : Int) ≤ (q : Int) := by have := HL2.out; omega
          clear hq
          go_wp2
          go_quiet (fail)
          go_wp2
          all_goals
            obtain ⟨z1, z2⟩ := four_ret (y0 := .int .i64 0) (y1 := .int .i64 0) (y2 := .string ⟨#[]⟩) (y3 := .slice none 0 0) (w := wr.drewN nq) ZRR.out
            generalize ((((World.setCell _ _ _).setCell _ _).setCell _ _).setCell _ _) = wz at z1 z2 ⊢
            obtain ⟨y0, y1, y2, y3, _⟩ := hdr4_cells z1
            refine bodyPost_ret (v := .tuple #[.agg #[.int .i64 0, .int .i64 0, .string ⟨#[]⟩, .slice none 0 0], .bool false]) (by simp [results, Tryd.results21, go_sem, y0, y1, y2, y3]) rfl ?_
            exact zero_ret ((B2.out.trans ((below_drewN HBR.out _).mono B2.out.size)).trans (z2.below (Nat.le_trans B2.out.size HBR.out.size) (by simp)))
    | some n' =>
      have HMK := Lib.hid (move_kids (s := sa) (l := la) hn)
      have hwn : (Lit.int .i64 n').wf = true := by
        by_cases h : ka = 5
        · rw [if_pos h] at hn; exact firstP_wf hwp hn
        · rw [if_neg h] at hn; cases hn; exact a5
      have HWN := Lib.hid hwn
      clear hwn
      go_enter Tryd.func21, Tryd.ntmps21
      go_upto_if 13 with fail
      rw [← HW2.out]
      clear hW2
      go_cut [6] (fun _ wx => MvHead w W2 ka n' sa ao la.length cap wx)
      case first =>
        by_cases h5 : ka = 5
        · subst h5
          rw [if_pos rfl] at hn
          have HN := Lib.hid hn
          clear hn
          go_wp2
          have HK : Hid (LkLoop ps na W2 ps.length (.int .i64 0) W2) := ⟨0, 0, rfl, rfl, by omega, rfl, Below.refl _ _⟩
          go_loopg [6] ps.length (fun gk s6 wr => LkLoop ps na W2 gk s6 wr)
          case atStart => exact HK.out
          case round =>
            clear HK
            obtain ⟨j, q, rfl, hq, hjk, hfp, hbr⟩ := hrel
            have zv := (hbr.block w.heap.size (lt_of_block ZV.out)).trans ZV.out
            have zr := (hbr.block (w.heap.size + 1) (lt_of_block ZR.out)).trans ZR.out
            clear v0 v1 v2 v3 v4 r0 r1 r2 r3 r4
            obtain ⟨v0, v1, v2, v3, v4⟩ := hdr4_cells zv
            obtain ⟨r0, r1, r2, r3, r4⟩ := hdr4_cells zr
            have ZVR := Lib.hid zv
            have ZRR := Lib.hid zr
            have HBR := Lib.hid hbr
            have HMR := Lib.hid (HMW.out.below hbr)
            clear hbr zv zr
            have HFP := Lib.hid hfp
            have HQ := Lib.hid hq
            clear hfp
            have g0 : (0 : Int) ≤ (q : Int) := by omega
            have g9 : (q : Int) ≤ 2000 := by omega
            by_cases hlt : j < ps.length
            · have g1 : (q : Int) < (L : Int) := by have := HL2.out; omega
              have g2 : ¬ (L : Int) ≤ (q : Int) := by have := HL2.out; omega
              obtain ⟨x, hx⟩ : ∃ x, ps[j]? = some x := ⟨_, List.getElem?_eq_getElem hlt⟩
              have hd := firstP_drop na hx
              obtain ⟨g, e, p0⟩ := HMR.out.cell (i := q) (by rw [HLL.out]; have := HL2.out; omega)
              obtain ⟨g', e', p1⟩ := HMR.out.cell (i := q + 1) (by rw [HLL.out]; have := HL2.out; omega)
              rw [e] at e'
              cases e'
              subst e
              rw [hq, (flatP_get hx).1, ← hq] at p0
              rw [hq, (flatP_get hx).2, ← hq] at p1
              by_cases hne : x.1 = na
              · rw [if_pos hne, ← HFP.out, HN.out] at hd
                have hxn : x.2 = n' := by cases hd; rfl
                rw [hne] at p0
                rw [hxn] at p1
                have hw1 : IntKind.i64.wrap ((q : Int) + 1) = (q : Int) + 1 := by rw [IntKind.wrap_i64]; omega
                have g3 : (q : Int) + 1 < (L : Int) := by have := HL2.out; omega
                have hb1 : (na != na) = false := by simp
                clear hd hx hq
                go_wp2
                go_quiet (fail)
                go_wp2
                go_meet
                exact ⟨(hdr4_set (w := wr.drewN nq) ZVR.out).trans rfl, (((Chg.refl [w.heap.size] W2).thenBelow (below_drewN HBR.out nq)).setCell (p := ⟨w.heap.size, 1, none⟩) (.inl (by simp)) _)⟩
              · rw [if_neg hne] at hd
                have HD := Lib.hid (HFP.out.trans hd)
                have hb1 : (x.1 != na) = true := by simpa using hne
                have hb3 : (x.1 == na) = false := by simpa using hne
                clear hd hx hq
                go_wp2
                go_quiet (fail)
                go_wp2
                go_roundg (gk - 1)
                case measure => omega
                case rel => exact ⟨j + 1, q + 2, by go_num, by have := HQ.out; omega, by omega, HD.out, below_drewN HBR.out _⟩
            · exfalso
              have := HFP.out
              rw [HN.out, List.drop_eq_nil_of_le (by omega)] at this
              cases this
        · rw [if_neg h5] at hn
          cases hn
          have hq : (ka == 5) = false := by simpa using h5
          go_wp2
          go_meet
          exact ⟨ZV.out, Chg.refl _ _⟩
      case rest =>
        obtain ⟨zv, hc⟩ := hcut
        clear hn v0 v1 v2 v3 v4 r0 r1 r2 r3 r4
        have hbc : Below w.heap.size w wc := B2.out.trans (hc.below B2.out.size (by simp))
        have zr := (hc.block (w.heap.size + 1) (lt_of_block ZR.out) (by simp)).trans ZR.out
        have hll : la.length ≤ 100000 := by
          have := VT.szs_len la
          rw [VT.sz] at hsz
          omega
        have HBC := Lib.hid hbc
        have ZR3 := Lib.hid zr
        have ZV3 := Lib.hid zv
        have S3 : Hid (w.heap.size + 2 ≤ wc.heap.size) := by have := hc.size; have := S2.out; show _ ≤ _; omega
        clear hbc zr zv hc ZV ZR HMW
        have HL : Hid (RmLoop wc (firstP ps) la la.length (.slice none 0 0) (.int .i64 0) wc) := ⟨0, [], rfl, KRow.nil _ _, rfl, by omega, by simp, Below.refl _ _⟩
        go_wp2
        go_loopg [7, 8] la.length (fun gk s7 s8 wr => RmLoop wc (firstP ps) la gk s7 s8 wr)
        case atStart => exact HL.out
        case round =>
          clear HL
          obtain ⟨i, done, rfl, hkr, hdl, hik, hmv, hbe⟩ := hrel
          have zv := (hbe.block w.heap.size (lt_of_block ZV3.out)).trans ZV3.out
          have zr := (hbe.block (w.heap.size + 1) (lt_of_block ZR3.out)).trans ZR3.out
          have hbr : Below w.heap.size w wr := HBC.out.trans (hbe.mono HBC.out.size)
          obtain ⟨v0, v1, v2, v3, v4⟩ := hdr4_cells zv
          obtain ⟨r0, r1, r2, r3, r4⟩ := hdr4_cells zr
          have ZVR := Lib.hid zv
          have ZRR := Lib.hid zr
          have HBR := Lib.hid hbr
          have HKR := Lib.hid hkr
          have HMV := Lib.hid hmv
          have HBE := Lib.hid hbe
          have HDL := Lib.hid hdl
          clear zv zr hbr hmv hbe hkr
          have g0 : (0 : Int) ≤ (i : Int) := by omega
          by_cases hlt : i < la.length
          · have g1 : (i : Int) < (la.length : Int) := by omega
            obtain ⟨tk, htk⟩ : ∃ u, la[i]? = some u := ⟨_, List.getElem?_eq_getElem hlt⟩
            have hdrop := VT.drop_kid htk
            obtain ⟨bb, oo, x0, x1, x2, x3, rfl, hbb, p0, p1, p2, p3, hvk⟩ := HA7.out.get htk
            rw [Nat.zero_add] at p0 p1 p2 p3
            have hbb' := HP.out _ hbb
            replace p0 := (HBR.out.cell (p := ⟨bb, oo + i * 4, none⟩) hbb').trans p0
            replace p1 := (HBR.out.cell (p := ⟨bb, oo + i * 4 + 1, none⟩) hbb').trans p1
            replace p2 := (HBR.out.cell (p := ⟨bb, oo + i * 4 + 2, none⟩) hbb').trans p2
            replace p3 := (HBR.out.cell (p := ⟨bb, oo + i * 4 + 3, none⟩) hbb').trans p3
            have HVK := Lib.hid (hvk.below HBR.out HP.out)
            have HPB : Hid (∀ b, (P b ∧ b < w.heap.size) → b < wr.heap.size) := fun b hb => Nat.lt_of_lt_of_le hb.2 HBR.out.size
            have hsk : tk.sz ≤ k := by
              have h5 : tk.sz < (VT.node ka na sa la).sz := VT.sz_kid (t := VT.node ka na sa la) htk
              omega
            have hsk2 : tk.sz ≤ 100000 := by
              have h5 : tk.sz < (VT.node ka na sa la).sz := VT.sz_kid (t := VT.node ka na sa la) htk
              omega
            have HI := Lib.hid (ih tk _ wr P hsk hsk2 HVK.out (fun b hb => Nat.lt_of_lt_of_le (HP.out b hb) HBR.out.size) (HM.out.below HBR.out))
            have HDR := Lib.hid hdrop
            clear hvk hdrop htk
            cases hr : tk.move (firstP ps) with
            | none =>
              rw [hr] at HI
              have HNO : Hid (VT.moves (firstP ps) la = none) := by show _ = _; rw [HMV.out, HDR.out, VT.moves_none _ hr]; rfl
              go_wp2_with (go_at_call 21; refine HI.out.mono ?_; rintro e w7 ⟨v7, rfl, hv7, hb7⟩; obtain ⟨ao7, cap7, rfl⟩ := hv7.form; have zr7 := (hb7.block (w.heap.size + 1) (lt_of_block ZRR.out)).trans ZRR.out; have zr8 := fun o => later_box zr7 o; obtain ⟨r0, r1, r2, r3, r4⟩ := hdr4_cells zr7; have ZR7 := Lib.hid zr7; have B7 := Lib.hid (HBR.out.trans (hb7.mono HBR.out.size)); clear hv7 hb7 zr7; unfold vval)
              all_goals
                obtain ⟨z1, z2⟩ := four_ret (y0 := .int .i64 0) (y1 := .int .i64 0) (y2 := .string ⟨#[]⟩) (y3 := .slice none 0 0) ((Below.heap_alloc _ _ _ (lt_of_block ZR7.out)).trans ZR7.out)
                generalize ((((World.setCell (World.alloc w7 _) _ _).setCell _ _).setCell _ _).setCell _ _) = wz at z1 z2 ⊢
                obtain ⟨y0, y1, y2, y3, _⟩ := hdr4_cells z1
                refine bodyPost_ret (v := .tuple #[.agg #[.int .i64 0, .int .i64 0, .string ⟨#[]⟩, .slice none 0 0], .bool false]) (by simp [results, Tryd.results21, go_sem, y0, y1, y2, y3]) rfl ?_
                rw [HMK.out, HNO.out]
                exact zero_ret ((B7.out.trans ((Below.refl _ _).alloc B7.out.size _)).trans (z2.below (by have := B7.out.size; simp; omega) (by simp)))
            | some tk' =>
              rw [hr] at HI
              have HYES : Hid (VT.moves (firstP ps) la = (VT.moves (firstP ps) (la.drop (i + 1))).map ((done ++ [tk']) ++ ·)) := by
                show _ = _
                rw [HMV.out, HDR.out, VT.moves_some _ hr]
                cases VT.moves (firstP ps) (la.drop (i + 1)) <;> simp
              go_wp2_with
                (first
                 | (go_at_call 21; refine HI.out.mono ?_; rintro e w7 ⟨v7, rfl, hv7, hb7⟩; replace hv7 : ValIs w7 (fun b => wr.heap.size ≤ b ∧ b < w7.heap.size) tk' v7 := (hv7.mono (fun b hb => ⟨by rcases hb.1 with h | h; exact h.elim; exact h, hb.2⟩));
                    obtain ⟨ao7, cap7, rfl⟩ := hv7.form; have HV7 := Lib.hid hv7; have HB7 := Lib.hid hb7; obtain ⟨ps7, k1, k2, k3, k4⟩ := HKR.out.below hb7; have K1 := Lib.hid k1; have K2 := Lib.hid k2; have K3 := Lib.hid k3; have K4 := Lib.hid k4; clear hv7 hb7 k1 k2 k3 k4; unfold vval)
                 | (at_builtin; (refine wpList_appz _ rfl _ _ 22 rfl 24 _ 4 56 Tryd.underlying22 infoV rfl (by decide) _ done.length (kcells done ps7) rfl ((K2.out.alloc _).alloc _) ⟨w7.heap.size + 1, 0, none⟩ 1 1 (kcell tk' (ao7, cap7)) rfl (by omega) rfl (cell_four_new2 _ _ _ _ _ _ _) (kcell_one _ _) (by rw [HDL.out]; omega) (by omega) ?_; intro g cap1 w1 hr1 hg1 hl1)))
              obtain ⟨n1, n2⟩ := kids_app HKR.out HBE.out.size HB7.out K1.out K3.out K4.out HV7.out hr1 hg1 hl1
              go_roundg (gk - 1)
              case measure => omega
              case rel => exact ⟨i + 1, done ++ [tk'], by go_num, by rw [← HDL.out]; exact n1, by rw [List.length_append, List.length_singleton, HDL.out], by omega, HYES.out, HBE.out.trans n2⟩
          · obtain rfl : i = la.length := by omega
            obtain ⟨so, cs, rfl, hle, hcm, h0, hks⟩ := HKR.out.kids
            have HKS := Lib.hid hks
            have hMM : VT.moves (firstP ps) la = some done := by rw [HMV.out, List.drop_length, VT.moves_nil]; simp
            have HMM := Lib.hid hMM
            clear hks hMM
            go_upto_region 17 with fail
            obtain ⟨w8, hw8⟩ : ∃ w8, w8 = wr.setCell ⟨w.heap.size, 3, none⟩ (.slice so la.length cs) := ⟨_, rfl⟩
            rw [← hw8]
            have zv8 : w8.heap[w.heap.size]? = some (.cells #[.int .i64 ka, .int .i64 n', .string sa, .slice so la.length cs] 24 (0, 0)) := by rw [hw8]; exact (hdr4_set ZVR.out).trans rfl
            have c8 : Chg [w.heap.size] wr w8 := by rw [hw8]; exact chg1_set wr w.heap.size 3 _
            have zr8 : w8.heap[w.heap.size + 1]? = some Z4 := (c8.block _ (lt_of_block ZRR.out) (by simp)).trans ZRR.out
            have hb8 : Below w.heap.size w w8 := HBR.out.trans (c8.below HBR.out.size (by simp))
            have hk8 : KidsAt w8 (fun b => (False ∨ w.heap.size ≤ b) ∧ b < w8.heap.size ∧ b ≠ w.heap.size + 1) done so 0 := by
              have hk1 : KidsAt w8 (fun b => wc.heap.size ≤ b ∧ b < wr.heap.size) done so 0 := HKS.out.keep (fun b h => h) (fun p hp => c8.cell hp.2 (by have := S3.out; have := hp.1; simp only [List.mem_singleton]; omega))
              exact hk1.keep (fun b h => ⟨.inr (by have := S3.out; omega), Nat.lt_of_lt_of_le h.2 c8.size, by have := S3.out; omega⟩) (fun p hp => rfl)
            clear hw8 v0 v1 v2 v3 v4 r0 r1 r2 r3 r4
            obtain ⟨v0, v1, v2, v3, v4⟩ := hdr4_cells zv8
            obtain ⟨r0, r1, r2, r3, r4⟩ := hdr4_cells zr8
            have ZR8 := Lib.hid zr8
            have HB8 := Lib.hid hb8
            have HK8 := Lib.hid hk8
            clear zr8 hb8 hk8 c8 zv8
            go_wp2
            all_goals
              obtain ⟨z1, z2⟩ := four_ret (y0 := .int .i64 ka) (y1 := .int .i64 n') (y2 := .string sa) (y3 := .slice so la.length cs) ZR8.out
              generalize ((((World.setCell _ _ _).setCell _ _).setCell _ _).setCell _ _) = wz at z1 z2 ⊢
              obtain ⟨y0, y1, y2, y3, _⟩ := hdr4_cells z1
              refine bodyPost_ret (v := .tuple #[.agg #[.int .i64 ka, .int .i64 n', .string sa, .slice so la.length cs], .bool true]) (by simp [results, Tryd.results21, go_sem, y0, y1, y2, y3]) rfl ?_
              rw [HMK.out, HMM.out]
              have := mv_end (P := fun _ => False) a4 HWN.out a3 hle hcm h0 HK8.out z2 HB8.out
              rw [hdl] at this
              exact this
end Go.Proofs.YtofmbpmmgpbdbaaDoor
