/- The reference's solver in memory; its head. -/
import Derived.Test.YthchkekegkhanaaDoorKdSolve
import Derived.Deep.QuietTactic
import Derived.BigQuiet
namespace Go.Proofs.YthchkekegkhanaaDoor
open Go.RowKit Go.Maps
set_option linter.unusedVariables false

/-- The first pair of that number. -/
def look : List (Int × Ty) → Int → Option Ty
  | [], _ => none
  | x :: l, n => if x.1 = n then some x.2 else look l n
theorem look_snoc {m : Int} {t : Ty} : ∀ {L : List (Int × Ty)}, look L m = none → look (L ++ [(m, t)]) = fun j => if j = m then some t else look L j
  | [], _ => by
    funext j
    rw [List.nil_append, look, look]
    by_cases h : j = m
    · simp [h]
    · simp [h, Ne.symm h, look]
  | x :: l, h => by
    funext j
    rw [look] at h
    by_cases hx : x.1 = m
    · rw [if_pos hx] at h; cases h
    · rw [if_neg hx] at h
      rw [List.cons_append, look, look_snoc h, look]
      by_cases hj : j = m
      · subst hj; rw [if_neg hx]; simp
      · simp only [if_neg hj]
theorem look_none {n : Int} : ∀ {L : List (Int × Ty)}, (∀ (i : Nat) (x : Int × Ty), L[i]? = some x → x.1 ≠ n) → look L n = none
  | [], _ => rfl
  | x :: l, h => by
    rw [look, if_neg (h 0 x rfl)]
    exact look_none fun i y hy => h (i + 1) y (by simpa using hy)
theorem look_some {n : Int} {x : Int × Ty} : ∀ {L : List (Int × Ty)} {j : Nat}, L[j]? = some x → x.1 = n → (∀ (i : Nat) (y : Int × Ty), i < j → L[i]? = some y → y.1 ≠ n) → look L n = some x.2
  | [], _, h, _, _ => by simp at h
  | y :: l, 0, h, hx, _ => by
    simp at h
    subst h
    rw [look, if_pos hx]
  | y :: l, j + 1, h, hx, hn => by
    rw [look, if_neg (hn 0 y (by omega) rfl)]
    exact look_some (j := j) (by simpa using h) hx fun i z hi hz => hn (i + 1) z (by omega) (by simpa using hz)

def lcells : List (Int × Ty) → List (Option Addr × Nat) → List Value
  | x :: l, p :: ps => .int .i64 x.1 :: tcell x.2 p ++ lcells l ps
  | _, _ => []
theorem lcells_length : ∀ {l : List (Int × Ty)} {ps : List (Option Addr × Nat)}, ps.length = l.length → (lcells l ps).length = l.length * 5
  | [], [], _ => rfl
  | t :: l, p :: ps, h => by
    simp only [List.length_cons] at h
    rw [lcells, List.length_append, lcells_length (by omega)]; simp [tcell]; omega
theorem lcells_get : ∀ {l : List (Int × Ty)} {ps : List (Option Addr × Nat)} {i r : Nat} {x : Int × Ty} {p : Option Addr × Nat}, l[i]? = some x → ps[i]? = some p → r < 5 → (lcells l ps)[i * 5 + r]? = (Value.int .i64 x.1 :: tcell x.2 p)[r]?
  | [], _, _, _, _, _, h, _, _ => by cases h
  | _ :: _, [], _, _, _, _, _, h, _ => by cases h
  | t :: l, p :: ps, 0, r, u, q, h, h2, hr => by
    rw [List.getElem?_cons_zero] at h h2; cases h; cases h2
    rw [lcells, Nat.zero_mul, Nat.zero_add, List.getElem?_append_left (by simp [tcell]; omega)]
  | t :: l, p :: ps, i + 1, r, u, q, h, h2, hr => by
    rw [List.getElem?_cons_succ] at h h2
    rw [lcells, List.getElem?_append_right (by simp [tcell]; omega), show (i + 1) * 5 + r - (Value.int IntKind.i64 t.1 :: tcell t.2 p).length = i * 5 + r by simp [tcell]; omega]
    exact lcells_get h h2 hr
theorem lcells_snoc : ∀ {l : List (Int × Ty)} {ps : List (Option Addr × Nat)} {x : Int × Ty} {p : Option Addr × Nat}, ps.length = l.length → lcells (l ++ [x]) (ps ++ [p]) = lcells l ps ++ (Value.int .i64 x.1 :: tcell x.2 p)
  | [], [], _, _, _ => by simp [lcells]
  | t :: l, q :: ps, u, p, h => by
    simp only [List.length_cons] at h
    rw [List.cons_append, List.cons_append, lcells, lcells, lcells_snoc (by omega), List.append_assoc]

/-- Blocks of types: none of the solver's own. -/
def Rr (w : World) (p : Nat) (v : Value) : Nat → Prop := fun b => b < w.heap.size ∧ b ≠ p ∧ v.ownBlock ≠ some b
structure RSolv (w : World) (p : Nat) (v : Value) (md pr : Int) (L : List (Int × Ty)) (s : Int → Ty) : Prop where
  hdr : w.heap[p]? = some (.cells #[v, .int .i64 md, .int .i64 pr] 38 (0, 0))
  row : ∃ ps : List (Option Addr × Nat), ps.length = L.length ∧ RowZ w 91 5 v L.length (lcells L ps) ∧ ∀ (i : Nat) (x : Int × Ty) (q : Option Addr × Nat), L[i]? = some x → ps[i]? = some q → TyIs w (Rr w p v) x.2 (tval x.2 q.1 q.2)
  sol : Sol (look L) s
  ne : v.ownBlock ≠ some p
section
variable {w w' : World} {p : Nat} {v : Value} {md pr : Int} {L : List (Int × Ty)} {s : Int → Ty}
theorem Rr.up (hs : w.heap.size ≤ w'.heap.size) {b : Nat} (h : Rr w p v b) : Rr w' p v b := ⟨Nat.lt_of_lt_of_le h.1 hs, h.2⟩
theorem TyIs.rr {t : Ty} {x : Value} (h : TyIs w (Rr w p v) t x) (hb : Below w.heap.size w w') : TyIs w' (Rr w' p v) t x := (h.below hb (fun b hb => hb.1)).mono fun b hb' => Rr.up hb.size hb'
theorem RSolv.below (h : RSolv w p v md pr L s) (hb : Below w.heap.size w w') : RSolv w' p v md pr L s := by
  obtain ⟨ps, h1, h2, h3⟩ := h.row
  exact ⟨(hb.block p (lt_of_block h.hdr)).trans h.hdr, ⟨ps, h1, h2.below hb (fun k hk => h2.lt hk), fun i x q hx hq => (h3 i x q hx hq).rr hb⟩, h.sol, h.ne⟩
theorem RSolv.form (h : RSolv w p v md pr L s) : ∃ ao cap, v = .slice ao L.length cap ∧ L.length ≤ cap ∧ cap ≤ maxLen := by
  obtain ⟨ps, h1, h2, h3⟩ := h.row
  obtain ⟨ao, cap, e, h4, h5, _⟩ := h2.form
  exact ⟨ao, cap, e, h4, h5⟩
theorem RSolv.cells {ao : Option Addr} {n cap : Nat} (h : RSolv w p (.slice ao n cap) md pr L s) {j : Nat} {x : Int × Ty} (hj : L[j]? = some x) : ∃ g aot cpt, ao = some ⟨g, 0, none⟩ ∧ w.cell? ⟨g, j * 5, none⟩ = some (.int .i64 x.1) ∧ w.cell? ⟨g, j * 5 + 1, none⟩ = some (.int .i64 x.2.op) ∧ w.cell? ⟨g, j * 5 + 1 + 1, none⟩ = some (.int .i64 x.2.num) ∧
    w.cell? ⟨g, j * 5 + 1 + 2, none⟩ = some (.string x.2.text) ∧ w.cell? ⟨g, j * 5 + 1 + 3, none⟩ = some (.slice aot x.2.kids.length cpt) ∧ TyIs w (Rr w p (.slice ao n cap)) x.2 (tval x.2 aot cpt) := by
  obtain ⟨ps, h1, h2, h3⟩ := h.row
  have hjl := (List.getElem?_eq_some_iff.1 hj).1
  obtain ⟨q, hq⟩ : ∃ q, ps[j]? = some q := ⟨_, List.getElem?_eq_getElem (by omega)⟩
  have hlen := lcells_length h1
  obtain ⟨ao', cap', e, _, _, hn, hs⟩ := h2.form
  cases e
  cases ao with
  | none => have := (hn rfl).1; rw [this] at hlen; simp at hlen; omega
  | some a =>
    obtain ⟨g, rfl, hg, hgb⟩ := hs a rfl
    have c : ∀ r, r < 5 → w.cell? ⟨g, j * 5 + r, none⟩ = (Value.int .i64 x.1 :: tcell x.2 q)[r]? := fun r hr => by
      rw [← lcells_get hj hq hr]
      exact h2.cellAt _ (by rw [hlen]; omega)
    exact ⟨g, q.1, q.2, rfl, c 0 (by omega), c 1 (by omega), c 2 (by omega), c 3 (by omega), c 4 (by omega), h3 j x q hj hq⟩
end
def RHeadEnd (wb w : World) (p : Nat) (v : Value) (L : List (Int × Ty)) (s : Int → Ty) (t : Ty) (e : Ending) (w' : World) : Prop :=
  ∃ u ao cap, e = .returned (.agg #[.int .i64 u.op, .int .i64 u.num, .string u.text, .slice ao u.kids.length cap]) ∧ TyIs w' (Rr wb p v) u (tval u ao cap) ∧ HeadOf (look L) s t u ∧ Below w.heap.size w w'
def RHeadLoop (W : World) (H : Nat) (P : Nat → Prop) (L : List (Int × Ty)) (s : Int → Ty) (t : Ty) (gk : Nat) (wr : World) : Prop :=
  ∃ u ao cap, wr.heap[H]? = some (.cells #[.int .i64 u.op, .int .i64 u.num, .string u.text, .slice ao u.kids.length cap] 40 (0, 0)) ∧ TyIs wr P u (tval u ao cap) ∧ u.sub s = t.sub s ∧ (∀ k, ends k (look L) t → ends k (look L) u) ∧ ends gk (look L) u ∧ Chg [H] W wr
def FindLoop (W : World) (L : List (Int × Ty)) (m : Int) (gk : Nat) (s5 : Value) (wr : World) : Prop :=
  ∃ j : Nat, s5 = .int .i64 j ∧ j + gk = L.length ∧ (∀ (i : Nat) (y : Int × Ty), i < j → L[i]? = some y → y.1 ≠ m) ∧ Below W.heap.size W wr
theorem ref_headed {wb w wr wq wz : World} {p : Nat} {v : Value} {L : List (Int × Ty)} {s : Int → Ty} {t u : Ty} {ao : Option Addr} {cap : Nat} (hwb : wb.heap.size ≤ w.heap.size) (hu : TyIs wr (Rr wb p v) u (tval u ao cap)) (hus : u.sub s = t.sub s) (hup : ∀ k, ends k (look L) t → ends k (look L) u) (hf : ∀ n, u = .var n → look L n = none)
    (hb : Below w.heap.size w wr) (hq : Below wr.heap.size wr wq) (hz : Chg [w.heap.size + 1] wq wz) : RHeadEnd wb w p v L s t (.returned (.agg #[.int .i64 u.op, .int .i64 u.num, .string u.text, .slice ao u.kids.length cap])) wz := by
  have hbs := hb.size
  have hqs := hq.size
  have hzs := hz.size
  refine ⟨u, ao, cap, rfl, ?_, ⟨hus, hup, hf⟩, (hb.trans (hq.mono hbs)).trans (hz.below (by omega) (by simp))⟩
  exact (hu.below hq (fun b hb => by have := hb.1; omega)).chg hz (fun b hb => ⟨by have := hb.1; omega, by have := hb.1; simp; omega⟩)
theorem ref_next {wb w W wr X wz : World} {p gk : Nat} {v : Value} {L : List (Int × Ty)} {s : Int → Ty} {t tm : Ty} {m : Int} {ao : Option Addr} {cap : Nat} (hus : (Ty.var m).sub s = t.sub s) (hup : ∀ k, ends k (look L) t → ends k (look L) (.var m)) (hs : Sol (look L) s) (h1 : look L m = some tm) (hwb : Below wb.heap.size wb w) (h3 : TyIs wb (Rr wb p v) tm (tval tm ao cap)) (he : ends gk (look L) tm)
    (hbW : Below w.heap.size w W) (hb : Below w.heap.size w wr) (hx : Below wr.heap.size wr X) (hc : Chg [w.heap.size] W wr) (z1 : wz.heap[w.heap.size]? = some (.cells #[.int .i64 tm.op, .int .i64 tm.num, .string tm.text, .slice ao tm.kids.length cap] 40 (0, 0))) (hz : Chg [w.heap.size] X wz) :
    RHeadLoop W w.heap.size (Rr wb p v) L s t gk wz := by
  have hbs := hb.size
  have hwbs := hwb.size
  have hxs := hx.size
  refine ⟨tm, ao, cap, z1, ?_, ?_, fun k hk => ?_, he, (hc.trans (below_chg hx) (fun k hk => by simp at hk)).trans hz (fun k hk => .inl hk)⟩
  · exact (((h3.below hwb (fun b hb => hb.1)).below hb (fun b hb => by have := hb.1; omega)).below hx (fun b hb => by have := hb.1; omega)).chg hz (fun b hb => ⟨by have := hb.1; omega, by have := hb.1; simp; omega⟩)
  · rw [← hus, Ty.sub, hs.step m tm h1]
  · have := hup k hk
    cases k with
    | zero => rw [ends] at this; exact this.elim
    | succ k => rw [ends_step h1] at this; exact ends_up this
set_option maxRecDepth 100000 in
set_option maxHeartbeats 1600000 in
theorem refHead_any {wb w : World} {p : Nat} {v : Value} {md pr : Int} {L : List (Int × Ty)} {s : Int → Ty} (hwb : Below wb.heap.size wb w) (h0 : RSolv wb p v md pr L s) (t : Ty) (x : Value) (ht : TyIs w (Rr wb p v) t x) :
    Calls Tryd.prog 49 #[.pointer (some ⟨p, 0, none⟩), x] w (RHeadEnd wb w p v L s t) := by
  have h := h0.below hwb
  have HS0 := Lib.hid h0
  have HWB := Lib.hid hwb
  have hwbs := hwb.size
  clear h0 hwb
  obtain ⟨K, hK⟩ := h.sol.all t
  obtain ⟨ao, cap, rfl⟩ := ht.form
  obtain ⟨aol, capl, hvl, hll, hlm⟩ := h.form
  have HS := Lib.hid h
  have HT := Lib.hid ht
  have HK := Lib.hid hK
  have HVL := Lib.hid hvl
  have hlp := lt_of_block h.hdr
  unfold maxLen at hlm
  clear h ht hK hvl
  unfold tval
  go_enter Tryd.func49, Tryd.ntmps49
  go_wp2
  generalize hW : ((w.alloc _).alloc _) = W
  have SW : Hid (W.heap.size = w.heap.size + 2) := by show _ = _; rw [← hW]; simp
  have ZA : Hid (W.heap[w.heap.size]? = some (.cells #[.int .i64 t.op, .int .i64 t.num, .string t.text, .slice ao t.kids.length cap] 40 (0, 0))) := by
    show _ = _
    rw [← hW]; exact (heap_alloc_old _ _ (by simp)).trans (heap_alloc_new _ _)
  have ZB : Hid (W.heap[w.heap.size + 1]? = some (.cells #[.int .i64 0, .int .i64 0, .string ⟨#[]⟩, .slice none 0 0] 40 (0, 0))) := by
    show _ = _
    rw [← hW]; exact heap_new2 w _ _
  have BW : Hid (Below w.heap.size w W) := by rw [← hW]; exact ((Below.refl _ _).alloc (Nat.le_refl _) _).alloc (by simp) _
  clear hW
  have HL : Hid (RHeadLoop W w.heap.size (Rr wb p v) L s t K W) := ⟨t, ao, cap, ZA.out, HT.out.below BW.out (fun b hb => by have := hb.1; omega), rfl, fun _ h => h, HK.out, Chg.refl _ _⟩
  go_loopg [6] K (fun gk _ wr => RHeadLoop W w.heap.size (Rr wb p v) L s t gk wr)
  case atStart => exact HL.out
  case round =>
    clear HL
    obtain ⟨u, ao', cap', hz, hu, hus, hup, hue, hc⟩ := hrel
    have hs0 := SW.out
    have hB : wr.heap[w.heap.size + 1]? = some (.cells #[.int .i64 0, .int .i64 0, .string ⟨#[]⟩, .slice none 0 0] 40 (0, 0)) := (hc.block (w.heap.size + 1) (by omega) (by simp)).trans ZB.out
    have BWR : Hid (Below w.heap.size w wr) := BW.out.trans (hc.below (by omega) (by simp))
    obtain ⟨d0, d1, d2, d3, d4⟩ := hdr4_cells hz
    obtain ⟨b0, b1, b2, b3, b4⟩ := hdr4_cells hB
    have HB := Lib.hid hB
    have HZ := Lib.hid hz
    have HU := Lib.hid hu
    have HUS := Lib.hid hus
    have HUP := Lib.hid hup
    have HC := Lib.hid hc
    have HUE := Lib.hid hue
    clear hB hz hu hus hup hc hs0 hue
    cases u with
    | con c l =>
      simp only [Ty.op, Ty.num, Ty.text, Ty.kids] at d0 d1 d2 d3
      go_wp2
      obtain ⟨z1, z2⟩ := four_ret (y0 := .int .i64 1) (y1 := .int .i64 0) (y2 := .string c) (y3 := .slice ao' l.length cap') HB.out
      generalize ((((World.setCell _ _ _).setCell _ _).setCell _ _).setCell _ _) = wz at z1 z2 ⊢
      obtain ⟨y0, y1, y2, y3, _⟩ := hdr4_cells z1
      refine bodyPost_ret (v := .agg #[.int .i64 1, .int .i64 0, .string c, .slice ao' l.length cap']) (by simp [results, Tryd.results49, go_sem, y0, y1, y2, y3]) rfl ?_
      exact ref_headed (u := .con c l) hwbs HU.out HUS.out HUP.out (fun n h => by cases h) BWR.out (Below.refl _ _) z2
    | var m =>
      simp only [Ty.op, Ty.num, Ty.text, Ty.kids] at d0 d1 d2 d3
      have HFL : Hid (FindLoop wr L m L.length (.int .i64 0) wr) := ⟨0, rfl, by omega, fun i y hi => by omega, Below.refl _ _⟩
      go_wp2
      clear d0 d1 d2 d3 d4 b0 b1 b2 b3 b4
      go_loopg [5] L.length (fun gk s5 wq => FindLoop wr L m gk s5 wq)
      case atStart => exact HFL.out
      case round =>
        clear HFL
        obtain ⟨j, rfl, hjk, hne, hbq⟩ := hrel
        have hsr := HS.out.below (BWR.out.trans (hbq.mono BWR.out.size))
        obtain ⟨e0, e1, e2, e3⟩ := hdr3_cells hsr.hdr
        have zq := (hbq.block _ (lt_of_block HZ.out)).trans HZ.out
        have bq := (hbq.block _ (lt_of_block HB.out)).trans HB.out
        simp only [Ty.op, Ty.num, Ty.text, Ty.kids] at zq
        obtain ⟨d0, d1, d2, d3, d4⟩ := hdr4_cells zq
        obtain ⟨b0, b1, b2, b3, b4⟩ := hdr4_cells bq
        rw [HVL.out] at e0
        have HNE := Lib.hid hne
        have HBQ := Lib.hid hbq
        have HSR := Lib.hid hsr
        have ZQ := Lib.hid zq
        have BQ := Lib.hid bq
        clear hne hbq hsr zq bq
        have g0 : (0 : Int) ≤ (j : Int) := by omega
        by_cases hlt : j < L.length
        · have g1 : (j : Int) < (L.length : Int) := by omega
          have g2 : ((j : Int) == (L.length : Int)) = false := by simp; omega
          obtain ⟨y, hy⟩ : ∃ y, L[j]? = some y := ⟨_, List.getElem?_eq_getElem hlt⟩
          have hcl := HS0.out
          rw [HVL.out] at hcl
          obtain ⟨g, aot, cpt, rfl, p0, p1, p2, p3, p4, hty⟩ := hcl.cells hy
          have hgl := lt_of_cell p0
          have hbw : Below wb.heap.size wb wr := HWB.out.trans ((BWR.out.trans (HBQ.out.mono BWR.out.size)).mono hwbs)
          replace p0 := (hbw.cell (p := ⟨g, j * 5, none⟩) hgl).trans p0
          replace p1 := (hbw.cell (p := ⟨g, j * 5 + 1, none⟩) hgl).trans p1
          replace p2 := (hbw.cell (p := ⟨g, j * 5 + 1 + 1, none⟩) hgl).trans p2
          replace p3 := (hbw.cell (p := ⟨g, j * 5 + 1 + 2, none⟩) hgl).trans p3
          replace p4 := (hbw.cell (p := ⟨g, j * 5 + 1 + 3, none⟩) hgl).trans p4
          rw [← HVL.out] at hty
          have HBW := Lib.hid hbw
          have HY := Lib.hid hy
          have HTY := Lib.hid hty
          clear hcl hy hty hbw hgl
          by_cases hym : y.1 = m
          · have hnn : (y.1 != m) = false := by simp [hym]
            have HLK : Hid (look L m = some y.2) := look_some HY.out hym HNE.out
            clear hym
            go_wp2
            go_quiet (fail)
            go_wp2
            have zX : (wr.drewN nq).heap[w.heap.size]? = _ := ((below_drewN (Below.refl wr.heap.size wr) nq).block _ (lt_of_block ZQ.out)).trans ZQ.out
            have hbX := HBQ.out.trans (below_drewN ((Below.refl wr.heap.size wr).mono HBQ.out.size) nq)
            generalize wr.drewN nq = X at zX hbX ⊢
            obtain ⟨z1, z2⟩ := four_ret (y0 := .int .i64 y.2.op) (y1 := .int .i64 y.2.num) (y2 := .string y.2.text) (y3 := .slice aot y.2.kids.length cpt) zX
            generalize ((((World.setCell _ _ _).setCell _ _).setCell _ _).setCell _ _) = wz at z1 z2 ⊢
            obtain ⟨gk', hgk⟩ := ends_pred HS.out.sol HUE.out HLK.out
            go_roundg gk'
            case measure => omega
            case rel => exact ref_next HUS.out HUP.out HS.out.sol HLK.out HWB.out HTY.out (by have := HUE.out; rw [hgk, ends_step HLK.out] at this; exact this) BW.out BWR.out hbX HC.out z1 z2
          · have hnn : (y.1 != m) = true := by simpa using hym
            have HYM := Lib.hid hym
            clear hym
            go_wp2
            go_quiet (fail)
            go_wp2
            go_roundg (gk - 1)
            case measure => omega
            case rel =>
              refine ⟨j + 1, by go_num, by omega, fun i z hi hz => ?_, HBQ.out.trans (below_drewN ((Below.refl _ _).mono HBQ.out.size) _)⟩
              by_cases hij : i < j
              · exact HNE.out i z hij hz
              · obtain rfl : i = j := by omega
                rw [HY.out] at hz
                cases hz
                exact HYM.out
        · obtain rfl : j = L.length := by omega
          have HLK : Hid (look L m = none) := look_none fun i x hx => HNE.out i x (List.getElem?_eq_some_iff.1 hx).1 hx
          go_wp2
          go_quiet (fail)
          go_wp2
          have bX : (wr.drewN nq).heap[w.heap.size + 1]? = _ := ((below_drewN (Below.refl wr.heap.size wr) nq).block _ (lt_of_block BQ.out)).trans BQ.out
          have hbX := HBQ.out.trans (below_drewN ((Below.refl wr.heap.size wr).mono HBQ.out.size) nq)
          generalize wr.drewN nq = X at bX hbX ⊢
          obtain ⟨z1, z2⟩ := four_ret (y0 := .int .i64 0) (y1 := .int .i64 m) (y2 := .string ⟨#[]⟩) (y3 := .slice ao' 0 cap') bX
          generalize ((((World.setCell _ _ _).setCell _ _).setCell _ _).setCell _ _) = wz at z1 z2 ⊢
          obtain ⟨y0, y1, y2, y3, _⟩ := hdr4_cells z1
          refine bodyPost_ret (v := .agg #[.int .i64 0, .int .i64 m, .string ⟨#[]⟩, .slice ao' 0 cap']) (by simp [results, Tryd.results49, go_sem, y0, y1, y2, y3]) rfl ?_
          exact ref_headed (u := .var m) hwbs HU.out HUS.out HUP.out (fun n h => by cases h; exact HLK.out) BWR.out hbX z2
end Go.Proofs.YthchkekegkhanaaDoor
/- The reference's size and has. -/
namespace Go.Proofs.YthchkekegkhanaaDoor
open Go.RowKit Go.Maps
set_option linter.unusedVariables false

namespace Ty
mutual
def cnt : Ty → Int → Int
  | var _, z => z + 1
  | con _ l, z => cnts l (z + 1)
def cnts : List Ty → Int → Int
  | [], z => z
  | t :: l, z => if z ≤ 1000 then cnts l (cnt t z) else z
end
theorem cnt_all : ∀ (k : Nat) (t : Ty) (z : Int), t.sz ≤ k → 0 ≤ z → z ≤ 1000 → z < cnt t z ∧ cnt t z ≤ 1001 ∧ (z + t.sz ≤ 1000 → cnt t z = z + t.sz) ∧ (1000 < z + t.sz → 1000 < cnt t z)
  | 0, t, z, h, _, _ => by have := t.sz_pos; omega
  | k + 1, var n, z, h, h0, h1 => by
    rw [cnt, sz]
    exact ⟨by omega, by omega, fun _ => by omega, fun _ => by omega⟩
  | k + 1, con c l, z, h, h0, h1 => by
    rw [sz] at h
    have hl : ∀ (l : List Ty) (z : Int), szs l ≤ k → 0 ≤ z → z ≤ 1001 → z ≤ cnts l z ∧ cnts l z ≤ 1001 ∧ (z + szs l ≤ 1000 → cnts l z = z + szs l) ∧ (1000 < z + szs l → 1000 < cnts l z) := by
      intro l
      induction l with
      | nil => intro z _ a b; rw [cnts, szs]; exact ⟨by omega, by omega, fun _ => by simp, fun h => by simpa using h⟩
      | cons t l ih =>
        intro z hk a b
        rw [szs] at hk ⊢
        rw [cnts]
        by_cases hz : z ≤ 1000
        · rw [if_pos hz]
          obtain ⟨i1, i2, i3, i4⟩ := cnt_all k t z (by omega) a hz
          obtain ⟨j1, j2, j3, j4⟩ := ih (cnt t z) (by omega) (by omega) i2
          refine ⟨by omega, j2, fun h => ?_, fun h => ?_⟩
          · have e := i3 (by omega)
            rw [e] at j3 ⊢
            rw [j3 (by omega)]
            omega
          · by_cases ht : z + t.sz ≤ 1000
            · have e := i3 ht
              rw [e] at j4 ⊢
              exact j4 (by omega)
            · have := i4 (by omega)
              omega
        · rw [if_neg hz]
          exact ⟨by omega, b, fun h => by omega, fun _ => by omega⟩
    rw [cnt, sz]
    obtain ⟨j1, j2, j3, j4⟩ := hl l (z + 1) (by omega) (by omega) (by omega)
    exact ⟨by omega, j2, fun h => by rw [j3 (by omega)]; omega, fun h => j4 (by omega)⟩
end Ty
def SizeEnd (w : World) (z : Int) (e : Ending) (w' : World) : Prop := e = .returned (.int .i64 z) ∧ Below w.heap.size w w'
def SizeLoop (s : Int → Ty) (W : World) (l : List Ty) (z1 : Int) (gk : Nat) (s7 s2 : Value) (wr : World) : Prop :=
  ∃ (i : Nat) (z : Int), s7 = .int .i64 i ∧ s2 = .int .i64 z ∧ i + gk = l.length ∧ 0 ≤ z ∧ z ≤ 1001 ∧ Ty.cnts (l.map (Ty.sub s)) z1 = Ty.cnts ((l.drop i).map (Ty.sub s)) z ∧ Below W.heap.size W wr
def HasLoop (s : Int → Ty) (m : Int) (W : World) (l : List Ty) (gk : Nat) (s7 : Value) (wr : World) : Prop :=
  ∃ (i : Nat), s7 = .int .i64 i ∧ i + gk = l.length ∧ Ty.hass m (l.map (Ty.sub s)) = Ty.hass m ((l.drop i).map (Ty.sub s)) ∧ Below W.heap.size W wr
theorem cnts_drop (z : Int) {s : Int → Ty} {l : List Ty} {i : Nat} {t : Ty} (hi : i < l.length) (h : l[i]? = some t) : Ty.cnts ((l.drop i).map (Ty.sub s)) z = if z ≤ 1000 then Ty.cnts ((l.drop (i + 1)).map (Ty.sub s)) (Ty.cnt (t.sub s) z) else z := by
  rw [List.drop_eq_getElem_cons hi, show l[i] = t from Option.some.inj ((List.getElem?_eq_getElem hi).symm.trans h), List.map_cons, Ty.cnts]
theorem cnts_stop {z : Int} {l : List Ty} (h : ¬ z ≤ 1000) : Ty.cnts l z = z := by
  cases l with
  | nil => rw [Ty.cnts]
  | cons t l => rw [Ty.cnts, if_neg h]
theorem hass_drop (m : Int) {s : Int → Ty} {l : List Ty} {i : Nat} {t : Ty} (hi : i < l.length) (h : l[i]? = some t) : Ty.hass m ((l.drop i).map (Ty.sub s)) = (Ty.has m (t.sub s) || Ty.hass m ((l.drop (i + 1)).map (Ty.sub s))) := by
  rw [List.drop_eq_getElem_cons hi, show l[i] = t from Option.some.inj ((List.getElem?_eq_getElem hi).symm.trans h), List.map_cons, Ty.hass]
set_option maxRecDepth 100000 in
set_option maxHeartbeats 1600000 in
theorem size_walk {wb : World} {p : Nat} {v : Value} {md pr : Int} {L : List (Int × Ty)} {s : Int → Ty} (h : RSolv wb p v md pr L s) (k : Nat) : ∀ (t : Ty) (x : Value) (w : World) (z : Int), ends k (look L) t → Below wb.heap.size wb w → TyIs w (Rr wb p v) t x → 0 ≤ z → z ≤ 1000 →
    Calls Tryd.prog 51 #[.pointer (some ⟨p, 0, none⟩), x, .int .i64 z] w (SizeEnd w (Ty.cnt (t.sub s) z)) := by
  have HS := Lib.hid h
  clear h
  induction k with
  | zero => intro t x w z hk; rw [ends] at hk; exact hk.elim
  | succ k ih =>
    intro t x w z hk hwb ht hz0 hz1
    obtain ⟨ao, cap, rfl⟩ := ht.form
    have hwbs := hwb.size
    have hb1 : Below w.heap.size w (w.alloc (.cells #[.int .i64 t.op, .int .i64 t.num, .string t.text, .slice ao t.kids.length cap] 40)) := (Below.refl _ _).alloc (Nat.le_refl _) _
    have HHD := Lib.hid (refHead_any (hwb.trans (hb1.mono hwbs)) HS.out t _ (ht.below hb1 (fun b hb => by have := hb.1; omega)))
    have HEK := Lib.hid hk
    have HWB := Lib.hid hwb
    clear ht hb1 hk hwb
    unfold tval RHeadEnd at HHD
    unfold tval
    go_enter Tryd.func51, Tryd.ntmps51
    go_upto_region 2 with (go_at_call 49; refine HHD.out.mono ?_; clear HHD; rintro e w5 ⟨u, ao5, cap5, rfl, hu, hho, hb5⟩; have z5 := (hb5.block w.heap.size (by simp)).trans (heap_alloc_new w _); obtain ⟨c0, c1, c2, c3, c4⟩ := hdr4_cells z5; have Z5 := Lib.hid z5; have B5 := Lib.hid hb5; have U5 := Lib.hid hu; have HO := Lib.hid hho; clear z5 hb5 hu hho)
    obtain ⟨z1, z2⟩ := four_ret (y0 := .int .i64 u.op) (y1 := .int .i64 u.num) (y2 := .string u.text) (y3 := .slice ao5 u.kids.length cap5) Z5.out
    generalize ((((World.setCell _ _ _).setCell _ _).setCell _ _).setCell _ _) = wx at z1 z2 ⊢
    have hs5 : w.heap.size + 1 ≤ w5.heap.size := by have := B5.out.size; simpa using this
    have hbx : Below w.heap.size w wx := (((Below.refl _ _).alloc (Nat.le_refl _) _).trans (B5.out.mono (by simp))).trans (z2.below (B := w.heap.size) (by omega) (by simp))
    have hux : TyIs wx (Rr wb p v) u (tval u ao5 cap5) := U5.out.chg z2 (fun b hb => ⟨by have := hb.1; omega, by have := hb.1; simp; omega⟩)
    obtain ⟨d0, d1, d2, d3, d4⟩ := hdr4_cells z1
    have HBX := Lib.hid hbx
    have HUX := Lib.hid hux
    have ZX := Lib.hid z1
    clear z1 z2 Z5 B5 U5 hbx hux c0 c1 c2 c3 c4 hs5
    cases u with
    | var m =>
      have hsm : Hid (t.sub s = .var m) := by show _ = _; rw [← HO.out.eq, Ty.sub, HS.out.sol.free m (HO.out.free m rfl)]
      simp only [Ty.op, Ty.num, Ty.text, Ty.kids] at d0 d1 d2 d3
      clear HEK HO
      go_wp2
      go_ret
      rw [hsm.out, Ty.cnt]
      exact ⟨rfl, HBX.out⟩
    | con c l =>
      simp only [Ty.op, Ty.num, Ty.text, Ty.kids] at d0 d1 d2 d3
      have hsm : Hid (t.sub s = .con c (l.map (Ty.sub s))) := by show _ = _; rw [← HO.out.eq, Ty.sub_con]
      have HKE : Hid (∀ t ∈ l, ends k (look L) t) := by
        have := HO.out.ends _ HEK.out
        rw [ends_con] at this
        exact this
      obtain ⟨ao6, cap6, hval, hle, hmx, _, _, hkl⟩ := HUX.out.con
      have hval' : Value.slice ao5 l.length cap5 = .slice ao6 l.length cap6 := by
        have := congrArg (fun v => match v with | Value.agg a => a[3]? | _ => none) hval
        simpa [tval, Ty.kids] using this
      cases hval'
      unfold maxLen at hmx
      have HKL := Lib.hid hkl
      clear hval hkl HUX HO HEK
      go_wp2
      go_loopg [7, 2] l.length (fun gk s7 s2 wr => SizeLoop s wx l (z + 1) gk s7 s2 wr)
      case atStart => exact ⟨0, z + 1, rfl, rfl, by omega, by omega, by omega, rfl, Below.refl _ _⟩
      case round =>
        obtain ⟨i, zi, rfl, rfl, hik, hzi0, hzi1, hvs, hbi⟩ := hrel
        have HVS := Lib.hid hvs
        have HBI := Lib.hid hbi
        have hbis := hbi.size
        have hbxs := HBX.out.size
        have zi := (hbi.block _ (lt_of_block ZX.out)).trans ZX.out
        simp only [Ty.op, Ty.num, Ty.text, Ty.kids] at zi
        clear d0 d1 d2 d3 d4
        obtain ⟨d0, d1, d2, d3, d4⟩ := hdr4_cells zi
        clear hvs hbi zi
        have g0 : (0 : Int) ≤ (i : Int) := by omega
        by_cases hlt : i < l.length
        · have g1 : (i : Int) < (l.length : Int) := by omega
          by_cases hzi : zi ≤ 1000
          rotate_left
          · go_wp2
            go_ret
            have hst : Hid (Ty.cnts ((l.drop i).map (Ty.sub s)) zi = zi) := cnts_stop (by omega)
            rw [hsm.out, Ty.cnt, HVS.out, hst.out]
            exact ⟨rfl, HBX.out.trans (HBI.out.mono hbxs)⟩
          obtain ⟨tk, htk⟩ : ∃ u, l[i]? = some u := ⟨_, List.getElem?_eq_getElem hlt⟩
          obtain ⟨bb, oo, rfl, hbb⟩ := HKL.out.addr htk
          obtain ⟨_, ak, ck, p0, p1, p2, p3, hvk⟩ := HKL.out.cells htk
          rw [Nat.zero_add] at p0 p1 p2 p3
          have hbn : bb < wx.heap.size := by have := hbb.1; omega
          replace p0 := (HBI.out.cell (p := ⟨bb, oo + i * 4, none⟩) hbn).trans p0
          replace p1 := (HBI.out.cell (p := ⟨bb, oo + i * 4 + 1, none⟩) hbn).trans p1
          replace p2 := (HBI.out.cell (p := ⟨bb, oo + i * 4 + 2, none⟩) hbn).trans p2
          replace p3 := (HBI.out.cell (p := ⟨bb, oo + i * 4 + 3, none⟩) hbn).trans p3
          have hbr : Below wb.heap.size wb wr := (HWB.out.trans (HBX.out.mono hwbs)).trans (HBI.out.mono (by omega))
          have HCALL := Lib.hid (ih tk _ wr zi (HKE.out tk (List.mem_of_getElem? htk)) hbr (hvk.below HBI.out (fun b hb => by have := hb.1; omega)) (by omega) hzi)
          have HDR := Lib.hid (cnts_drop zi (s := s) hlt htk)
          clear hvk htk hbn hbr
          unfold tval SizeEnd at HCALL
          rw [if_pos hzi] at HDR
          have hca := Ty.cnt_all _ (tk.sub s) zi (Nat.le_refl _) (by omega) hzi
          have HCA := Lib.hid hca
          clear hca
          generalize Ty.cnt (tk.sub s) zi = z9 at HCALL HDR HCA
          go_wp2_with (go_at_call 51; refine HCALL.out.mono ?_; clear HCALL; rintro e w9 ⟨rfl, hb9⟩; have B9 := Lib.hid hb9; clear hb9)
          go_roundg (gk - 1)
          case measure => omega
          case rel => exact ⟨i + 1, z9, by go_num, rfl, by omega, by have := HCA.out.1; omega, HCA.out.2.1, by rw [HVS.out, HDR.out], HBI.out.trans (B9.out.mono hbis)⟩
        · obtain rfl : i = l.length := by omega
          go_wp2
          go_ret
          rw [hsm.out, Ty.cnt, HVS.out, List.drop_length, List.map_nil, Ty.cnts]
          exact ⟨rfl, HBX.out.trans (HBI.out.mono hbxs)⟩
set_option maxRecDepth 100000 in
set_option maxHeartbeats 1600000 in
theorem has_walk {wb : World} {p : Nat} {v : Value} {md pr : Int} {L : List (Int × Ty)} {s : Int → Ty} (h : RSolv wb p v md pr L s) (m0 : Int) (k : Nat) : ∀ (t : Ty) (x : Value) (w : World) , ends k (look L) t → Below wb.heap.size wb w → TyIs w (Rr wb p v) t x → 
    Calls Tryd.prog 57 #[.pointer (some ⟨p, 0, none⟩), x, .int .i64 m0] w (SmallEnd w (Ty.has m0 (t.sub s))) := by
  have HS := Lib.hid h
  clear h
  induction k with
  | zero => intro t x w  hk; rw [ends] at hk; exact hk.elim
  | succ k ih =>
    intro t x w  hk hwb ht 
    obtain ⟨ao, cap, rfl⟩ := ht.form
    have hwbs := hwb.size
    have hb1 : Below w.heap.size w (w.alloc (.cells #[.int .i64 t.op, .int .i64 t.num, .string t.text, .slice ao t.kids.length cap] 40)) := (Below.refl _ _).alloc (Nat.le_refl _) _
    have HHD := Lib.hid (refHead_any (hwb.trans (hb1.mono hwbs)) HS.out t _ (ht.below hb1 (fun b hb => by have := hb.1; omega)))
    have HEK := Lib.hid hk
    have HWB := Lib.hid hwb
    clear ht hb1 hk hwb
    unfold tval RHeadEnd at HHD
    unfold tval
    go_enter Tryd.func57, Tryd.ntmps57
    go_upto_region 2 with (go_at_call 49; refine HHD.out.mono ?_; clear HHD; rintro e w5 ⟨u, ao5, cap5, rfl, hu, hho, hb5⟩; have z5 := (hb5.block w.heap.size (by simp)).trans (heap_alloc_new w _); obtain ⟨c0, c1, c2, c3, c4⟩ := hdr4_cells z5; have Z5 := Lib.hid z5; have B5 := Lib.hid hb5; have U5 := Lib.hid hu; have HO := Lib.hid hho; clear z5 hb5 hu hho)
    obtain ⟨z1, z2⟩ := four_ret (y0 := .int .i64 u.op) (y1 := .int .i64 u.num) (y2 := .string u.text) (y3 := .slice ao5 u.kids.length cap5) Z5.out
    generalize ((((World.setCell _ _ _).setCell _ _).setCell _ _).setCell _ _) = wx at z1 z2 ⊢
    have hs5 : w.heap.size + 1 ≤ w5.heap.size := by have := B5.out.size; simpa using this
    have hbx : Below w.heap.size w wx := (((Below.refl _ _).alloc (Nat.le_refl _) _).trans (B5.out.mono (by simp))).trans (z2.below (B := w.heap.size) (by omega) (by simp))
    have hux : TyIs wx (Rr wb p v) u (tval u ao5 cap5) := U5.out.chg z2 (fun b hb => ⟨by have := hb.1; omega, by have := hb.1; simp; omega⟩)
    obtain ⟨d0, d1, d2, d3, d4⟩ := hdr4_cells z1
    have HBX := Lib.hid hbx
    have HUX := Lib.hid hux
    have ZX := Lib.hid z1
    clear z1 z2 Z5 B5 U5 hbx hux c0 c1 c2 c3 c4 hs5
    cases u with
    | var m =>
      have hsm : Hid (t.sub s = .var m) := by show _ = _; rw [← HO.out.eq, Ty.sub, HS.out.sol.free m (HO.out.free m rfl)]
      simp only [Ty.op, Ty.num, Ty.text, Ty.kids] at d0 d1 d2 d3
      clear HEK HO
      by_cases hm : m = m0
      · subst hm
        go_wp2
        go_ret
        rw [hsm.out, Ty.has]
        exact ⟨ret_bool (by simp), HBX.out⟩
      · have hm1 : (m == m0) = false := by simpa using hm
        clear hm
        go_wp2
        go_ret
        rw [hsm.out, Ty.has]
        exact ⟨ret_bool hm1.symm, HBX.out⟩
    | con c l =>
      simp only [Ty.op, Ty.num, Ty.text, Ty.kids] at d0 d1 d2 d3
      have hsm : Hid (t.sub s = .con c (l.map (Ty.sub s))) := by show _ = _; rw [← HO.out.eq, Ty.sub_con]
      have HKE : Hid (∀ t ∈ l, ends k (look L) t) := by
        have := HO.out.ends _ HEK.out
        rw [ends_con] at this
        exact this
      obtain ⟨ao6, cap6, hval, hle, hmx, _, _, hkl⟩ := HUX.out.con
      have hval' : Value.slice ao5 l.length cap5 = .slice ao6 l.length cap6 := by
        have := congrArg (fun v => match v with | Value.agg a => a[3]? | _ => none) hval
        simpa [tval, Ty.kids] using this
      cases hval'
      unfold maxLen at hmx
      have HKL := Lib.hid hkl
      clear hval hkl HUX HO HEK
      go_wp2
      go_loopg [7] l.length (fun gk s7 wr => HasLoop s m0 wx l gk s7 wr)
      case atStart => exact ⟨0, rfl, by omega, rfl, Below.refl _ _⟩
      case round =>
        obtain ⟨i, rfl, hik, hvs, hbi⟩ := hrel
        have HVS := Lib.hid hvs
        have HBI := Lib.hid hbi
        have hbis := hbi.size
        have hbxs := HBX.out.size
        have zi := (hbi.block _ (lt_of_block ZX.out)).trans ZX.out
        simp only [Ty.op, Ty.num, Ty.text, Ty.kids] at zi
        clear d0 d1 d2 d3 d4
        obtain ⟨d0, d1, d2, d3, d4⟩ := hdr4_cells zi
        clear hvs hbi zi
        have g0 : (0 : Int) ≤ (i : Int) := by omega
        by_cases hlt : i < l.length
        · have g1 : (i : Int) < (l.length : Int) := by omega
          skip
          obtain ⟨tk, htk⟩ : ∃ u, l[i]? = some u := ⟨_, List.getElem?_eq_getElem hlt⟩
          obtain ⟨bb, oo, rfl, hbb⟩ := HKL.out.addr htk
          obtain ⟨_, ak, ck, p0, p1, p2, p3, hvk⟩ := HKL.out.cells htk
          rw [Nat.zero_add] at p0 p1 p2 p3
          have hbn : bb < wx.heap.size := by have := hbb.1; omega
          replace p0 := (HBI.out.cell (p := ⟨bb, oo + i * 4, none⟩) hbn).trans p0
          replace p1 := (HBI.out.cell (p := ⟨bb, oo + i * 4 + 1, none⟩) hbn).trans p1
          replace p2 := (HBI.out.cell (p := ⟨bb, oo + i * 4 + 2, none⟩) hbn).trans p2
          replace p3 := (HBI.out.cell (p := ⟨bb, oo + i * 4 + 3, none⟩) hbn).trans p3
          have hbr : Below wb.heap.size wb wr := (HWB.out.trans (HBX.out.mono hwbs)).trans (HBI.out.mono (by omega))
          have HCALL := Lib.hid (ih tk _ wr (HKE.out tk (List.mem_of_getElem? htk)) hbr (hvk.below HBI.out (fun b hb => by have := hb.1; omega)))
          have HDR := Lib.hid (hass_drop m0 (s := s) hlt htk)
          clear hvk htk hbn hbr
          unfold tval SmallEnd at HCALL
          generalize Ty.has m0 (tk.sub s) = b9 at HCALL HDR
          cases b9
          · go_wp2_with (go_at_call 57; refine HCALL.out.mono ?_; clear HCALL; rintro e w9 ⟨rfl, hb9⟩; have B9 := Lib.hid hb9; clear hb9)
            go_roundg (gk - 1)
            case measure => omega
            case rel => exact ⟨i + 1, by go_num, by omega, by rw [HVS.out, HDR.out, Bool.false_or], HBI.out.trans (B9.out.mono hbis)⟩
          · go_wp2_with (go_at_call 57; refine HCALL.out.mono ?_; clear HCALL; rintro e w9 ⟨rfl, hb9⟩; have B9 := Lib.hid hb9; clear hb9)
            go_ret
            rw [hsm.out, Ty.has, HVS.out, HDR.out, Bool.true_or]
            exact ⟨rfl, (HBX.out.trans (HBI.out.mono hbxs)).trans (B9.out.mono (by omega))⟩
        · obtain rfl : i = l.length := by omega
          go_wp2
          go_ret
          rw [hsm.out, Ty.has, HVS.out, List.drop_length, List.map_nil, Ty.hass]
          exact ⟨rfl, HBX.out.trans (HBI.out.mono hbxs)⟩
end Go.Proofs.YthchkekegkhanaaDoor
/- The reference's bind. -/
namespace Go.Proofs.YthchkekegkhanaaDoor
open Go.RowKit Go.Maps
set_option linter.unusedVariables false

theorem infoL : (Tryd.prog.info? 91).map (fun i => (i.zero, i.size, i.bytes)) = some (some (.agg #[.int .i64 0, .int .i64 0, .int .i64 0, .string ⟨#[]⟩, .slice none 0 0]), 5, 64) := by kernel_rfl
/-- The solver's own blocks may turn. -/
def RStep (p : Nat) (w : World) (v : Value) (w' : World) (v' : Value) : Prop := Chg (p :: v.ownBlock.toList) w w' ∧ (v'.ownBlock = v.ownBlock ∨ ∃ j, v'.ownBlock = some j ∧ w.heap.size ≤ j)
theorem RStep.refl (p : Nat) (w : World) (v : Value) : RStep p w v w v := ⟨Chg.refl _ _, .inl rfl⟩
theorem RStep.trans {p : Nat} {w w1 w2 : World} {v v1 v2 : Value} (h : RStep p w v w1 v1) (k : RStep p w1 v1 w2 v2) : RStep p w v w2 v2 := by
  refine ⟨h.1.trans k.1 (fun j hj => ?_), ?_⟩
  · rcases List.mem_cons.1 hj with rfl | hj
    · exact .inl (by simp)
    · have hj' := Option.mem_toList.1 hj
      rcases h.2 with e | ⟨i, e, hi⟩
      · rw [e] at hj'; exact .inl (List.mem_cons_of_mem _ (Option.mem_toList.2 hj'))
      · rw [e] at hj'; cases hj'; exact .inr hi
  · rcases k.2 with e | ⟨i, e, hi⟩
    · rw [e]; exact h.2
    · exact .inr ⟨i, e, Nat.le_trans h.1.size hi⟩
theorem RStep.made {p : Nat} {w w' : World} (v : Value) (h : Below w.heap.size w w') : RStep p w v w' v := ⟨(below_chg h).mono (by simp), .inl rfl⟩
theorem TyIs.stepped {p : Nat} {w w' : World} {v v' x : Value} {t : Ty} (h : TyIs w (Rr w p v) t x) (hs : RStep p w v w' v') : TyIs w' (Rr w' p v') t x := by
  refine (h.chg hs.1 (fun b hb => ⟨hb.1, fun hm => ?_⟩)).mono fun b hb => ⟨Nat.lt_of_lt_of_le hb.1 hs.1.size, hb.2.1, fun e => ?_⟩
  · rcases List.mem_cons.1 hm with rfl | hm
    · exact hb.2.1 rfl
    · exact hb.2.2 (Option.mem_toList.1 hm)
  · rcases hs.2 with e2 | ⟨j, e2, hj⟩
    · rw [e2] at e; exact hb.2.2 e
    · rw [e2] at e; cases e; have := hb.1; omega
/-- 'append(s.L, Pair{..})', at a step of a region that draws its order. -/
theorem step_appl {w : World} {ops : Array Oper} {o : Oper} {a : Act} {Q : Exit → Act → World → Prop} {K : Act → World → Prop} {E : Prop} (hgd : o.guard = none) (s x : Operand) (ho : o.op = .call { callee := .builtin .append, args := #[s, x], argTypes := #[36, 36] })
    {v : Value} {n : Nat} {xs : List Value} (hs : a.eval s = v) (hr : RowZ w 91 5 v n xs) {news : List Value} {ad : Addr} {c : Nat} (hx : a.eval x = .slice (some ad) 1 c) (hl : news.length = 5)
    (hnews : ∀ j u, news[j]? = some u → w.cell? (ad.add j) = some u) (h1 : ∀ u ∈ news, u.oneCell' = true) (h63 : n ≤ 1000000000)
    (h : ∀ g cap w', RowZ w' 91 5 (.slice (some ⟨g, 0, none⟩) (n + 1) cap) (n + 1) (xs ++ news) → w.grownBy w' v.ownBlock → (v.ownBlock = some g ∨ g = w.heap.size) → K (a.put o.dst (.slice (some ⟨g, 0, none⟩) (n + 1) cap)) w') : if Region.wanted o (yielded ops a.tmps) = true then Oper.wp Tryd.prog o a w K Q else E := by
  obtain ⟨i0, hi, hz0, hz1, hz2⟩ := info_parts infoL
  refine step_append_lies w hgd s x 36 ho 0 91 i0 _ 5 64 Tryd.underlying36 hi hz0 hz1 hz2 rfl (by decide) v n xs hs hr ad 1 c news hx (by rw [hl]) hnews h1 (by omega) (by unfold maxLen; omega) (by omega) (Nat.zero_le _) w.heap.size rfl ?_
  intro g cap w' hown' hgr hloc _
  exact h g cap w' hown' hgr hloc
theorem RSolv.store {w X w' : World} {p g cap : Nat} {v : Value} {md pr m : Int} {L : List (Int × Ty)} {s : Int → Ty} {t : Ty} {q : Option Addr × Nat} {ps : List (Option Addr × Nat)} (h : RSolv w p v md pr L s) (hX : Below w.heap.size w X) (h1 : ps.length = L.length) (h3 : ∀ (i : Nat) (x : Int × Ty) (q : Option Addr × Nat), L[i]? = some x → ps[i]? = some q → TyIs w (Rr w p v) x.2 (tval x.2 q.1 q.2))
    (hr : RowZ w' 91 5 (.slice (some ⟨g, 0, none⟩) (L.length + 1) cap) (L.length + 1) (lcells L ps ++ (Value.int .i64 m :: tcell t q))) (hg : X.grownBy w' v.ownBlock) (hl : v.ownBlock = some g ∨ g = X.heap.size) (ht : TyIs w (Rr w p v) t (tval t q.1 q.2)) (hf : look L m = none) (hn : (t.sub s).has m = false) :
    RSolv (w'.setCell ⟨p, 0, none⟩ (.slice (some ⟨g, 0, none⟩) (L.length + 1) cap)) p (.slice (some ⟨g, 0, none⟩) (L.length + 1) cap) md pr (L ++ [(m, t)]) (ext s m (t.sub s)) ∧ RStep p w v (w'.setCell ⟨p, 0, none⟩ (.slice (some ⟨g, 0, none⟩) (L.length + 1) cap)) (.slice (some ⟨g, 0, none⟩) (L.length + 1) cap) := by
  have hlp := lt_of_block h.hdr
  have hc1 : Chg v.ownBlock.toList w w' := ((below_chg hX).mono (F' := v.ownBlock.toList) (by simp)).trans ((Chg.refl v.ownBlock.toList X).grown hg (fun k hk => .inl (by simp [hk]))) (fun k hk => .inl hk)
  have hgp : g ≠ p := by
    rcases hl with e | e
    · rintro rfl; exact h.ne e
    · have := hX.size; omega
  have hc2 : Chg (p :: v.ownBlock.toList) w (w'.setCell ⟨p, 0, none⟩ (.slice (some ⟨g, 0, none⟩) (L.length + 1) cap)) := (hc1.mono (by simp; intro k hk; exact .inr hk)).setCell (.inl (by simp)) _
  have hst : RStep p w v (w'.setCell ⟨p, 0, none⟩ (.slice (some ⟨g, 0, none⟩) (L.length + 1) cap)) (.slice (some ⟨g, 0, none⟩) (L.length + 1) cap) := by
    refine ⟨hc2, ?_⟩
    rcases hl with e | e
    · exact .inl e.symm
    · exact .inr ⟨g, rfl, by have := hX.size; omega⟩
  refine ⟨⟨?_, ⟨ps ++ [q], by simp [h1], ?_, fun i x q' hx hq => ?_⟩, ?_, ?_⟩, hst⟩
  · have hp : w'.heap[p]? = some (.cells #[v, .int .i64 md, .int .i64 pr] 38 (0, 0)) := (hc1.block p hlp (by simpa using h.ne)).trans h.hdr
    exact (setc_block hp).trans rfl
  · rw [lcells_snoc h1, List.length_append]
    refine RowZ.chg hr (chg1_set w' p 0 _) (fun k hk hm => ?_)
    simp only [Value.ownBlock, Option.some.injEq] at hk
    simp only [List.mem_singleton] at hm
    omega
  · by_cases hi : i < L.length
    · rw [List.getElem?_append_left hi] at hx
      rw [List.getElem?_append_left (by omega)] at hq
      exact (h3 i x q' hx hq).stepped hst
    · have : i = L.length := by
        have := (List.getElem?_eq_some_iff.1 hx).1
        simp at this; omega
      subst this
      rw [List.getElem?_append_right (Nat.le_refl _), Nat.sub_self] at hx
      rw [List.getElem?_append_right (by omega), h1, Nat.sub_self] at hq
      cases hx; cases hq
      exact ht.stepped hst
  · rw [look_snoc hf]; exact h.sol.bind hf hn
  · simpa [Value.ownBlock] using hgp

def RBindEnd (w : World) (p : Nat) (v : Value) (md pr : Int) (n : Nat) (r : Int × (Int → Ty)) (e : Ending) (w' : World) : Prop :=
  ∃ v' L', e = .returned (.int .i64 r.1) ∧ RSolv w' p v' md pr L' r.2 ∧ L'.length ≤ n + 1 ∧ RStep p w v w' v'
theorem cnt_big (t : Ty) : (Ty.cnt t 0 ≤ 1000) ↔ t.sz ≤ 1000 := by
  obtain ⟨_, _, h1, h2⟩ := Ty.cnt_all t.sz t 0 (Nat.le_refl _) (by omega) (by omega)
  constructor
  · intro h
    rcases Nat.lt_or_ge 1000 t.sz with hh | hh
    · have := h2 (by omega); omega
    · exact hh
  · intro h; rw [h1 (by omega)]; omega
theorem cell_five_new (w : World) (a b c d e : Value) (t : TypeId) : ∀ (j : Nat) (u : Value), [a, b, c, d, e][j]? = some u → (w.alloc (.cells #[a, b, c, d, e] t)).cell? (Addr.add ⟨w.heap.size, 0, none⟩ j) = some u := by
  intro j u hj
  have hlt := (List.getElem?_eq_some_iff.1 hj).1
  simp at hlt
  have e : (Addr.add ⟨w.heap.size, 0, none⟩ j) = ⟨w.heap.size, j, none⟩ := by unfold Addr.add; split <;> simp_all
  rw [e]
  have : j = 0 ∨ j = 1 ∨ j = 2 ∨ j = 3 ∨ j = 4 := by omega
  rcases this with rfl | rfl | rfl | rfl | rfl <;> simpa using hj
theorem row_hdr {w X w' : World} {p : Nat} {v : Value} {A : Array Value} {t : TypeId} (hX : Below w.heap.size w X) (hg : X.grownBy w' v.ownBlock) (hz : w.heap[p]? = some (.cells A t (0, 0))) (hne : v.ownBlock ≠ some p) : w'.heap[p]? = some (.cells A t (0, 0)) := by
  have hlp := lt_of_block hz
  exact (((Chg.refl v.ownBlock.toList X).grown hg (fun k hk => .inl (by simp [hk]))).block p (Nat.lt_of_lt_of_le hlp hX.size) (by simpa using hne)).trans ((hX.block p hlp).trans hz)
set_option maxRecDepth 100000 in
set_option maxHeartbeats 1600000 in
theorem refBind_any {w : World} {p : Nat} {v : Value} {md pr m : Int} {L : List (Int × Ty)} {s : Int → Ty} (h : RSolv w p v md pr L s) (hln : L.length < 100000000) (t : Ty) (x : Value) (ht : TyIs w (Rr w p v) t x) (hf : look L m = none) (r : Nat) :
    Calls Tryd.prog 50 #[.pointer (some ⟨p, 0, none⟩), .int .i64 m, x] w (RBindEnd w p v md pr L.length ((bindF s r m (t.sub s)).1, (bindF s r m (t.sub s)).2.1)) := by
  obtain ⟨ao, cap, rfl⟩ := ht.form
  obtain ⟨K, hK⟩ := h.sol.all t
  obtain ⟨aol, capl, hvl, hll, hlm⟩ := h.form
  have hlp := lt_of_block h.hdr
  have hb1 : Below w.heap.size w (w.alloc (.cells #[.int .i64 t.op, .int .i64 t.num, .string t.text, .slice ao t.kids.length cap] 40)) := (Below.refl _ _).alloc (Nat.le_refl _) _
  have HSZ : Hid (∀ W, Below w.heap.size w W → Calls Tryd.prog 51 #[.pointer (some ⟨p, 0, none⟩), tval t ao cap, .int .i64 0] W (SizeEnd W (Ty.cnt (t.sub s) 0))) := fun W hW => size_walk h K t _ W 0 hK hW (ht.below hW (fun b hb => hb.1)) (by omega) (by omega)
  have HHS : Hid (∀ W, Below w.heap.size w W → Calls Tryd.prog 57 #[.pointer (some ⟨p, 0, none⟩), tval t ao cap, .int .i64 m] W (SmallEnd W (Ty.has m (t.sub s)))) := fun W hW => has_walk h m K t _ W hK hW (ht.below hW (fun b hb => hb.1))
  have HS := Lib.hid h
  have HT := Lib.hid ht
  have HB1 := Lib.hid hb1
  have HF := Lib.hid hf
  have HVL := Lib.hid hvl
  unfold maxLen at hlm
  clear h ht hK hb1 hf hvl
  unfold tval SizeEnd at HSZ
  unfold tval SmallEnd at HHS
  unfold tval
  go_enter Tryd.func50, Tryd.ntmps50
  by_cases hsz : (t.sub s).sz ≤ 1000
  · have hc := (cnt_big (t.sub s)).2 hsz
    have hc' : ¬ 1000 < Ty.cnt (t.sub s) 0 := by omega
    generalize Ty.cnt (t.sub s) 0 = z at HSZ hc hc'
    go_upto_region 3 with (go_at_call 51; refine (HSZ.out _ HB1.out).mono ?_; clear HSZ; rintro e w5 ⟨rfl, hb5⟩; have z5 := (hb5.block w.heap.size (by simp)).trans (heap_alloc_new w _); obtain ⟨c0, c1, c2, c3, c4⟩ := hdr4_cells z5; have B5 := Lib.hid (HB1.out.trans (hb5.mono HB1.out.size)); have Z5 := Lib.hid z5; clear hb5 z5)
    obtain ⟨b, hb⟩ : ∃ b, (t.sub s).has m = b := ⟨_, rfl⟩
    rw [hb] at HHS
    have HB := Lib.hid hb
    clear hb
    cases b
    · go_upto_region 5 with (go_at_call 57; refine (HHS.out _ B5.out).mono ?_; clear HHS; rintro e w7 ⟨rfl, hb7⟩; have z7 := (hb7.block w.heap.size (lt_of_block Z5.out)).trans Z5.out; obtain ⟨d0, d1, d2, d3, d4⟩ := hdr4_cells z7; have B7 := Lib.hid (B5.out.trans (hb7.mono B5.out.size)); have Z7 := Lib.hid z7; clear hb7 z7)
      have hsv7 := HS.out.below B7.out
      obtain ⟨e0, e1, e2, e3⟩ := hdr3_cells hsv7.hdr
      rw [HVL.out] at e0
      have x1 := fun o => new_ne' w7 e0 o
      obtain ⟨ps, q1, q2, q3⟩ := hsv7.row
      have hlen := lcells_length q1
      have Q1 := Lib.hid q1
      have Q2 := Lib.hid q2
      have Q3 := Lib.hid q3
      have HSV7 := Lib.hid hsv7
      have HT7 := Lib.hid (HT.out.rr B7.out)
      rw [HVL.out] at Q2
      clear q1 q2 q3 hsv7 c0 c1 c2 c3 c4 hlen
      go_wp2
      go_region_law (first
        | (refine step_appl (w := w7.drew.alloc (.cells #[.int .i64 m, .int .i64 t.op, .int .i64 t.num, .string t.text, .slice ao t.kids.length cap] 91)) (by rfl) _ _ (by rfl) (v := .slice aol L.length capl) (n := L.length) (xs := lcells L ps) (by rfl) (RowZ.alloc (w := w7.drew) Q2.out _) (news := [.int .i64 m, .int .i64 t.op, .int .i64 t.num, .string t.text, .slice ao t.kids.length cap]) (ad := ⟨w7.heap.size, 0, none⟩) (c := 1) (by rfl) rfl (cell_five_new w7.drew _ _ _ _ _ _) (by simp [Value.oneCell']) (by omega) ?_; intro g cap9 w9 hr9 hg9 hl9; have hp9 := row_hdr (w := w7) ((Below.refl _ _).drew.alloc (Nat.le_refl _) _) hg9 HSV7.out.hdr (HVL.out ▸ HSV7.out.ne); obtain ⟨f0, f1, f2, f3⟩ := hdr3_cells hp9; clear hp9; have HR9 := Lib.hid hr9; have HG9 := Lib.hid hg9; have HL9 := Lib.hid hl9; clear hr9 hg9 hl9))
      all_goals go_wp2
      all_goals go_ret
      all_goals
        have hbf : bindF s r m (t.sub s) = (0, ext s m (t.sub s), r) := by unfold bindF; rw [if_neg (by omega), if_neg (by rw [HB.out]; simp)]
        rw [hbf]
        have hX : Below w7.heap.size w7 (w7.drew.alloc (.cells #[.int .i64 m, .int .i64 t.op, .int .i64 t.num, .string t.text, .slice ao t.kids.length cap] 91)) := (Below.refl _ _).drew.alloc (Nat.le_refl _) _
        obtain ⟨n1, n2⟩ := HSV7.out.store hX Q1.out Q3.out (m := m) (t := t) (q := (ao, cap)) HR9.out (by rw [HVL.out]; exact HG9.out) (by rw [HVL.out]; exact HL9.out) HT7.out HF.out HB.out
        exact ⟨_, _, rfl, n1, by simp, (RStep.made v B7.out).trans n2⟩
    · go_wp2_with (go_at_call 57; refine (HHS.out _ B5.out).mono ?_; clear HHS; rintro e w7 ⟨rfl, hb7⟩; have B7 := Lib.hid (B5.out.trans (hb7.mono B5.out.size)); clear hb7)
      go_ret
      have hbf : bindF s r m (t.sub s) = (11, s, r) := by unfold bindF; rw [if_neg (by omega), if_pos (by rw [HB.out])]
      rw [hbf]
      exact ⟨v, L, rfl, HS.out.below B7.out, by omega, .made v B7.out⟩
  · have hc : ¬ Ty.cnt (t.sub s) 0 ≤ 1000 := fun e => hsz ((cnt_big (t.sub s)).1 e)
    have hc' : 1000 < Ty.cnt (t.sub s) 0 := by omega
    have hcz := (Ty.cnt_all (t.sub s).sz (t.sub s) 0 (Nat.le_refl _) (by omega) (by omega)).2.1
    generalize Ty.cnt (t.sub s) 0 = z at HSZ hc hc' hcz
    go_wp2_with (go_at_call 51; refine (HSZ.out _ HB1.out).mono ?_; clear HSZ; rintro e w5 ⟨rfl, hb5⟩; have B5 := Lib.hid (HB1.out.trans (hb5.mono HB1.out.size)); clear hb5)
    go_ret
    have hbf : bindF s r m (t.sub s) = (4, s, r) := by unfold bindF; rw [if_pos (by omega)]
    rw [hbf]
    exact ⟨v, L, rfl, HS.out.below B5.out, by omega, .made v B5.out⟩
end Go.Proofs.YthchkekegkhanaaDoor
