/- The program's solver in memory; its head. -/
import Derived.Test.YthchkekegkhanaaDoorKdOwn
import Derived.Test.YthchkekegkhanaaDoorVMap
namespace Go.Proofs.YthchkekegkhanaaDoor
open Go.RowKit Go.Maps
set_option linter.unusedVariables false
variable {R : Nat → Prop}

/-- Blocks of types: below N, and none of the solver's own. -/
def Tr (R : Nat → Prop) (N p bm : Nat) : Nat → Prop := fun b => b < N ∧ b ≠ p ∧ b ≠ bm ∧ R b
/-- The program's solver at p, its map at bm; what it knows of lies below N. -/
structure Solv (R : Nat → Prop) (w : World) (p bm N n : Nat) (fr pr : Int) (σ : Int → Option Ty) (s : Int → Ty) : Prop where
  hdr : w.heap[p]? = some (.cells #[.map (some bm), .int .i64 fr, .int .i64 pr] 69 (0, 0))
  map : ∃ f, VMap Tryd.prog 3 w bm n f ∧ ∀ k, (σ k = none ∧ f k = none) ∨ ∃ t v, σ k = some t ∧ f k = some v ∧ TyIs w (Tr R N p bm) t v
  sol : Sol σ s
  lp : p < N
  lb : bm < N
  ne : p ≠ bm
  hN : N ≤ w.heap.size
section
variable {w w' : World} {p bm N n : Nat} {fr pr : Int} {σ : Int → Option Ty} {s : Int → Ty}
theorem Solv.below (h : Solv R w p bm N n fr pr σ s) (hb : Below N w w') : Solv R w' p bm N n fr pr σ s := by
  refine ⟨(hb.block p h.lp).trans h.hdr, ?_, h.sol, h.lp, h.lb, h.ne, Nat.le_trans h.hN hb.size⟩
  obtain ⟨f, hf, hk⟩ := h.map
  refine ⟨f, ?_, fun k => ?_⟩
  · obtain ⟨D, ⟨es, clock, hb', rest⟩, hf'⟩ := hf
    exact ⟨D, ⟨es, clock, (hb.block bm h.lb).trans hb', rest⟩, hf'⟩
  · rcases hk k with h1 | ⟨t, v, h1, h2, h3⟩
    · exact .inl h1
    · exact .inr ⟨t, v, h1, h2, h3.below hb (fun b hb => hb.1)⟩
theorem hdr3_cells {q : Nat} {a b c : Value} {t : TypeId} (h : w.heap[q]? = some (.cells #[a, b, c] t (0, 0))) : w.cell? ⟨q, 0, none⟩ = some a ∧ w.cell? ⟨q, 1, none⟩ = some b ∧ w.cell? ⟨q, 2, none⟩ = some c ∧ ∀ j, w.frozen? ⟨q, j, none⟩ = false :=
  ⟨by simp [World.cell?, h], by simp [World.cell?, h], by simp [World.cell?, h], fun j => by simp [World.frozen?, h]⟩
end
/-- What a type is, variables that stand for something put aside. -/
structure HeadOf (σ : Int → Option Ty) (s : Int → Ty) (t u : Ty) : Prop where
  eq : u.sub s = t.sub s
  ends : ∀ k, ends k σ t → Go.Proofs.YthchkekegkhanaaDoor.ends k σ u
  free : ∀ n, u = .var n → σ n = none
def HeadEnd (w : World) (P : Nat → Prop) (σ : Int → Option Ty) (s : Int → Ty) (t : Ty) (e : Ending) (w' : World) : Prop :=
  ∃ u ao cap, e = .returned (.agg #[.int .i64 u.op, .int .i64 u.num, .string u.text, .slice ao u.kids.length cap]) ∧ TyIs w' P u (tval u ao cap) ∧ HeadOf σ s t u ∧ Below w.heap.size w w'
def HeadLoop (W : World) (H : Nat) (P : Nat → Prop) (σ : Int → Option Ty) (s : Int → Ty) (t : Ty) (gk : Nat) (wr : World) : Prop :=
  ∃ u ao cap, wr.heap[H]? = some (.cells #[.int .i64 u.op, .int .i64 u.num, .string u.text, .slice ao u.kids.length cap] 25 (0, 0)) ∧ TyIs wr P u (tval u ao cap) ∧ u.sub s = t.sub s ∧ (∀ k, ends k σ t → ends k σ u) ∧ ends gk σ u ∧ Chg [H] W wr
theorem VMap.drewN {P : Program} {K : TypeId} {w : World} {b n : Nat} {f : Int → Option Value} (h : VMap P K w b n f) (j : Nat) : VMap P K (w.drewN j) b n f := h.chg ((Chg.refl [] w).drewN j) (by simp)
theorem VMap.alloc {P : Program} {K : TypeId} {w : World} {b n : Nat} {f : Int → Option Value} (h : VMap P K w b n f) (o : Obj) : VMap P K (w.alloc o) b n f := h.chg ((Chg.refl [] w).alloc o) (by simp)
theorem zeroK (w : World) : (zeroValue 25).run Tryd.prog w = .ok (.agg #[.int .i64 0, .int .i64 0, .string ⟨#[]⟩, .slice none 0 0]) w := by kernel_rfl
theorem head_var {w wr X wz : World} {N p bm : Nat} {σ : Int → Option Ty} {s : Int → Ty} {t : Ty} {m : Int} {ao : Option Addr} {cap : Nat} (hu : TyIs wr (Tr R N p bm) (.var m) (tval (.var m) ao cap)) (hus : (Ty.var m).sub s = t.sub s) (hup : ∀ k, ends k σ t → ends k σ (.var m)) (h1 : σ m = none)
    (hb : Below w.heap.size w wr) (hx : Below wr.heap.size wr X) (hz : Chg [w.heap.size + 1] X wz) (hN : N ≤ w.heap.size) : HeadEnd w (Tr R N p bm) σ s t (.returned (.agg #[.int .i64 0, .int .i64 m, .string ⟨#[]⟩, .slice ao 0 cap])) wz := by
  have hbs := hb.size
  have hxs := hx.size
  refine ⟨.var m, ao, cap, rfl, ?_, ⟨hus, hup, fun n e => by cases e; exact h1⟩, (hb.trans (hx.mono hbs)).trans (hz.below (by omega) (by simp))⟩
  exact (hu.below hx (fun b hb => by have := hb.1; omega)).chg hz (fun b hb => ⟨by have := hb.1; omega, by have := hb.1; simp; omega⟩)
theorem ends_pred {σ : Int → Option Ty} {s : Int → Ty} (h : Sol σ s) {gk : Nat} {m : Int} {t : Ty} (he : ends gk σ (.var m)) (h1 : σ m = some t) : ∃ g, gk = g + 1 := by
  cases gk with
  | zero => rw [ends] at he; exact he.elim
  | succ g => exact ⟨g, rfl⟩
theorem head_next {w W wr X wz : World} {N p bm gk : Nat} {σ : Int → Option Ty} {s : Int → Ty} {t tm : Ty} {m : Int} {ao : Option Addr} {cap : Nat} (hus : (Ty.var m).sub s = t.sub s) (hup : ∀ k, ends k σ t → ends k σ (.var m)) (hs : Sol σ s) (h1 : σ m = some tm) (h3 : TyIs wr (Tr R N p bm) tm (tval tm ao cap)) (he : ends gk σ tm)
    (hb : Below w.heap.size w wr) (hx : Below wr.heap.size wr X) (hc : Chg [w.heap.size] W wr) (z1 : wz.heap[w.heap.size]? = some (.cells #[.int .i64 tm.op, .int .i64 tm.num, .string tm.text, .slice ao tm.kids.length cap] 25 (0, 0))) (hz : Chg [w.heap.size] X wz) (hN : N ≤ w.heap.size) (hW : W.heap.size = w.heap.size + 2) :
    HeadLoop W w.heap.size (Tr R N p bm) σ s t gk wz := by
  have hbs := hb.size
  have hxs := hx.size
  refine ⟨tm, ao, cap, z1, ?_, ?_, fun k hk => ?_, he, (hc.trans (below_chg hx) (fun k hk => by simp at hk)).trans hz (fun k hk => .inl hk)⟩
  · exact (h3.below hx (fun b hb => by have := hb.1; omega)).chg hz (fun b hb => ⟨by have := hb.1; omega, by have := hb.1; simp; omega⟩)
  · rw [← hus, Ty.sub, hs.step m tm h1]
  · have := hup k hk
    cases k with
    | zero => rw [ends] at this; exact this.elim
    | succ k => rw [ends_step h1] at this; exact ends_up this
set_option maxRecDepth 100000 in
set_option maxHeartbeats 1600000 in
theorem head_any {w : World} {p bm N n : Nat} {fr pr : Int} {σ : Int → Option Ty} {s : Int → Ty} (h : Solv R w p bm N n fr pr σ s) (t : Ty) (v : Value) (ht : TyIs w (Tr R N p bm) t v) :
    Calls Tryd.prog 47 #[.pointer (some ⟨p, 0, none⟩), v] w (HeadEnd w (Tr R N p bm) σ s t) := by
  obtain ⟨K, hK⟩ := h.sol.all t
  obtain ⟨ao, cap, rfl⟩ := ht.form
  have HS := Lib.hid h
  have HT := Lib.hid ht
  have HK := Lib.hid hK
  clear h ht hK
  unfold tval
  go_enter Tryd.func47, Tryd.ntmps47
  go_wp2
  generalize hW : ((w.alloc _).alloc _) = W
  have SW : Hid (W.heap.size = w.heap.size + 2) := by show _ = _; rw [← hW]; simp
  have ZA : Hid (W.heap[w.heap.size]? = some (.cells #[.int .i64 t.op, .int .i64 t.num, .string t.text, .slice ao t.kids.length cap] 25 (0, 0))) := by
    show _ = _
    rw [← hW]; exact (heap_alloc_old _ _ (by simp)).trans (heap_alloc_new _ _)
  have ZB : Hid (W.heap[w.heap.size + 1]? = some (.cells #[.int .i64 0, .int .i64 0, .string ⟨#[]⟩, .slice none 0 0] 25 (0, 0))) := by
    show _ = _
    rw [← hW]; exact heap_new2 w _ _
  have BW : Hid (Below w.heap.size w W) := by rw [← hW]; exact ((Below.refl _ _).alloc (Nat.le_refl _) _).alloc (by simp) _
  clear hW
  have HL : Hid (HeadLoop W w.heap.size (Tr R N p bm) σ s t K W) := ⟨t, ao, cap, ZA.out, HT.out.below BW.out (fun b hb => Nat.lt_of_lt_of_le hb.1 HS.out.hN), rfl, fun _ h => h, HK.out, Chg.refl _ _⟩
  go_loopg [7] K (fun gk _ wr => HeadLoop W w.heap.size (Tr R N p bm) σ s t gk wr)
  case atStart => exact HL.out
  case round =>
    clear HL
    obtain ⟨u, ao', cap', hz, hu, hus, hup, hue, hc⟩ := hrel
    have hs0 := SW.out
    have hN := HS.out.hN
    have hlp := HS.out.lp
    have hlb := HS.out.lb
    have hB : wr.heap[w.heap.size + 1]? = some (.cells #[.int .i64 0, .int .i64 0, .string ⟨#[]⟩, .slice none 0 0] 25 (0, 0)) := (hc.block (w.heap.size + 1) (by omega) (by simp)).trans ZB.out
    have BWR : Hid (Below w.heap.size w wr) := BW.out.trans (hc.below (by omega) (by simp))
    have hsv := HS.out.below (BWR.out.mono hN)
    obtain ⟨e0, e1, e2, e3⟩ := hdr3_cells hsv.hdr
    obtain ⟨d0, d1, d2, d3, d4⟩ := hdr4_cells hz
    obtain ⟨b0, b1, b2, b3, b4⟩ := hdr4_cells hB
    have HSV := Lib.hid hsv
    have HB := Lib.hid hB
    have HZ := Lib.hid hz
    have HU := Lib.hid hu
    have HUS := Lib.hid hus
    have HUP := Lib.hid hup
    have HC := Lib.hid hc
    have HUE := Lib.hid hue
    clear hB hz hu hus hup hc hs0 hsv hue
    cases u with
    | con c l =>
      simp only [Ty.op, Ty.num, Ty.text, Ty.kids] at d0 d1 d2 d3
      go_wp2
      obtain ⟨z1, z2⟩ := four_ret (y0 := .int .i64 1) (y1 := .int .i64 0) (y2 := .string c) (y3 := .slice ao' l.length cap') HB.out
      generalize ((((World.setCell _ _ _).setCell _ _).setCell _ _).setCell _ _) = wz at z1 z2 ⊢
      obtain ⟨y0, y1, y2, y3, _⟩ := hdr4_cells z1
      refine bodyPost_ret (v := .agg #[.int .i64 1, .int .i64 0, .string c, .slice ao' l.length cap']) (by simp [results, Tryd.results47, go_sem, y0, y1, y2, y3]) rfl ?_
      exact ⟨.con c l, ao', cap', rfl, HU.out.chg z2 (fun b hb => ⟨by have := hb.1; have := BWR.out.size; omega, by have := hb.1; simp; omega⟩), ⟨HUS.out, HUP.out, fun n h => by cases h⟩, BWR.out.trans (z2.below (by have := BWR.out.size; omega) (by simp))⟩
    | var m =>
      simp only [Ty.op, Ty.num, Ty.text, Ty.kids] at d0 d1 d2 d3
      obtain ⟨f, hf, hk⟩ := HSV.out.map
      have hwm : (Lit.int .i64 m).wf = true := by obtain ⟨_, _, _, _, h, _⟩ := HU.out.var; exact h
      have l1 := VMap.look (w := wr.drew) (hf.drewN 1) (t := 67) Tryd.underlying3 Tryd.underlying67 (zeroK _) hwm
      have l2 := fun o => VMap.look (w := (wr.alloc o).drew) (VMap.drewN (hf.alloc o) 1) (t := 67) Tryd.underlying3 Tryd.underlying67 (zeroK _) hwm
      have x1 := fun o => new_ne' wr e0 o
      have y1 := fun o => new_ne' wr d1 o
      have HMF := Lib.hid hf
      clear hf
      rcases hk m with ⟨h1, h2⟩ | ⟨tm, vm, h1, h2, h3⟩
      · rw [h2] at l1 l2
        simp only [Option.getD_none, Option.isSome_none] at l1 l2
        have H1 := Lib.hid h1
        clear h1 h2 hk
        go_wp2
        go_region_law (fail)
        all_goals
          obtain ⟨X, hX⟩ : ∃ X, X = (wr.alloc (.cells #[.int .i64 0, .int .i64 0, .string ⟨#[]⟩, .slice none 0 0] 25)).drew := ⟨_, rfl⟩
          rw [← hX]
          have BX : Hid (Below wr.heap.size wr X) := by rw [hX]; exact ((Below.refl _ _).alloc (Nat.le_refl _) _).drew
          have zx := (BX.out.block _ (lt_of_block HZ.out)).trans HZ.out
          have bx := (BX.out.block _ (lt_of_block HB.out)).trans HB.out
          simp only [Ty.op, Ty.num, Ty.text, Ty.kids] at zx
          obtain ⟨f0, f1, f2, f3, f4⟩ := hdr4_cells zx
          obtain ⟨g0, g1, g2, g3, g4⟩ := hdr4_cells bx
          have ZX := Lib.hid bx
          clear hX zx bx
          go_wp2
          obtain ⟨z1, z2⟩ := four_ret (y0 := .int .i64 0) (y1 := .int .i64 m) (y2 := .string ⟨#[]⟩) (y3 := .slice ao' 0 cap') ZX.out
          generalize ((((World.setCell _ _ _).setCell _ _).setCell _ _).setCell _ _) = wz at z1 z2 ⊢
          obtain ⟨y0, y1, y2, y3, _⟩ := hdr4_cells z1
          refine bodyPost_ret (v := .agg #[.int .i64 0, .int .i64 m, .string ⟨#[]⟩, .slice ao' 0 cap']) (by simp [results, Tryd.results47, go_sem, y0, y1, y2, y3]) rfl ?_
          exact head_var HU.out HUS.out HUP.out H1.out BWR.out BX.out z2 HS.out.hN
      · rw [h2] at l1 l2
        simp only [Option.getD_some, Option.isSome_some] at l1 l2
        obtain ⟨aom, capm, rfl⟩ := h3.form
        have H1 := Lib.hid h1
        have H3 := Lib.hid h3
        clear h1 h2 h3 hk
        unfold tval at l1 l2
        go_wp2
        go_region_law (fail)
        all_goals
          obtain ⟨X, hX⟩ : ∃ X, X = (wr.alloc (.cells #[.int .i64 tm.op, .int .i64 tm.num, .string tm.text, .slice aom tm.kids.length capm] 25)).drew := ⟨_, rfl⟩
          rw [← hX]
          have BX : Hid (Below wr.heap.size wr X) := by rw [hX]; exact ((Below.refl _ _).alloc (Nat.le_refl _) _).drew
          have nx : X.heap[wr.heap.size]? = some (.cells #[.int .i64 tm.op, .int .i64 tm.num, .string tm.text, .slice aom tm.kids.length capm] 25 (0, 0)) := by rw [hX]; exact heap_alloc_new _ _
          have zx := (BX.out.block _ (lt_of_block HZ.out)).trans HZ.out
          obtain ⟨f0, f1, f2, f3, f4⟩ := hdr4_cells zx
          obtain ⟨g0, g1, g2, g3, g4⟩ := hdr4_cells nx
          have ZX := Lib.hid zx
          clear hX zx nx
          go_wp2
          obtain ⟨z1, z2⟩ := four_ret (y0 := .int .i64 tm.op) (y1 := .int .i64 tm.num) (y2 := .string tm.text) (y3 := .slice aom tm.kids.length capm) ZX.out
          generalize ((((World.setCell _ _ _).setCell _ _).setCell _ _).setCell _ _) = wz at z1 z2 ⊢
          obtain ⟨gk', hgk⟩ := ends_pred HSV.out.sol HUE.out H1.out
          go_roundg gk'
          case measure => omega
          case rel => exact head_next HUS.out HUP.out HSV.out.sol H1.out H3.out (by have := HUE.out; rw [hgk, ends_step H1.out] at this; exact this) BWR.out BX.out HC.out z1 z2 HS.out.hN SW.out
end Go.Proofs.YthchkekegkhanaaDoor
