/- The laws' to, from: copies of types. -/
import Derived.Test.YthchkekegkhanaaDoorKdBox
import Derived.Deep.DeepCutAuto
namespace Go.Proofs.YthchkekegkhanaaDoor
open Go.RowKit Go.Maps
set_option linter.unusedVariables false

/-- A type that was made anew. -/
def NewTy (w : World) (t : Ty) (e : Ending) (w' : World) : Prop :=
  ∃ ao cap, e = .returned (.agg #[.int .i64 t.op, .int .i64 t.num, .string t.text, .slice ao t.kids.length cap]) ∧ TyIs w' (fun b => w.heap.size ≤ b ∧ b < w'.heap.size) t (tval t ao cap) ∧ Below w.heap.size w w'
theorem Ty.kid_sz {t u : Ty} {i : Nat} (h : t.kids[i]? = some u) : u.sz < t.sz := by
  cases t with
  | var n => simp [Ty.kids] at h
  | con c l =>
    have : u.sz ≤ Ty.szs l := Ty.szs_mem (List.mem_of_getElem? h)
    rw [Ty.sz]; omega
theorem Ty.kids_len (t : Ty) : t.kids.length < t.sz := by
  cases t with
  | var n => simp [Ty.kids, Ty.sz]
  | con c l => have := Ty.szs_len l; rw [Ty.sz]; simp [Ty.kids]; omega
theorem take_snoc {α : Type} {l : List α} {i : Nat} {n : α} (h : l[i]? = some n) : l.take (i + 1) = l.take i ++ [n] := by rw [List.take_add_one, h]; rfl
def CopyLoop (T : TypeId) (W : World) (H : Nat) (x0 x1 : Int) (x2 : ByteArray) (l : List Ty) (gk : Nat) (s4 : Value) (wr : World) : Prop :=
  ∃ (i : Nat) (v : Value), s4 = .int .i64 i ∧ i + gk = l.length ∧ wr.heap[H]? = some (.cells #[.int .i64 x0, .int .i64 x1, .string x2, v] T (0, 0)) ∧ TRow T wr W.heap.size v (l.take i) ∧ Chg [H] W wr
theorem TRow.form {T : TypeId} {w : World} {base : Nat} {v : Value} {l : List Ty} (h : TRow T w base v l) : ∃ ao cap, v = .slice ao l.length cap := by
  obtain ⟨ao, cap, h1, _⟩ := h.kids
  exact ⟨ao, cap, h1⟩
/-- Three new boxes. -/
theorem three_boxes (w : World) (A B C : Array Value) (tA tB tC : TypeId) : ∃ W, W = ((w.alloc (.cells A tA)).alloc (.cells B tB)).alloc (.cells C tC) ∧ W.heap.size = w.heap.size + 3 ∧ W.heap[w.heap.size]? = some (.cells A tA (0, 0)) ∧ W.heap[w.heap.size + 1]? = some (.cells B tB (0, 0)) ∧ W.heap[w.heap.size + 1 + 1]? = some (.cells C tC (0, 0)) ∧ Below w.heap.size w W := by
  refine ⟨_, rfl, by simp, ?_, ?_, ?_, (((Below.refl _ _).alloc (Nat.le_refl _) _).alloc (by simp) _).alloc (by simp; omega) _⟩
  · exact (heap_alloc_old _ _ (by simp; omega)).trans ((heap_alloc_old _ _ (by simp)).trans (heap_alloc_new w _))
  · have := heap_alloc_new (w.alloc (.cells A tA)) (.cells B tB)
    exact (heap_alloc_old _ _ (by simp)).trans (by simpa using this)
  · have := heap_alloc_new ((w.alloc (.cells A tA)).alloc (.cells B tB)) (.cells C tC)
    simpa using this
theorem TRow.lt {T : TypeId} {w : World} {base : Nat} {v : Value} {l : List Ty} (h : TRow T w base v l) {k : Nat} (hk : v.ownBlock = some k) : base ≤ k ∧ k < w.heap.size := by
  obtain ⟨ps, h1, h2, h3, h4⟩ := h
  exact ⟨h3 k hk, h2.lt hk⟩
theorem copy_row {T : TypeId} {wr w5 : World} {base : Nat} {v : Value} {l : List Ty} (h : TRow T wr base v l) (hb : Below wr.drew.heap.size wr.drew w5) (o : Obj) : TRow T (w5.alloc o) base v l := by
  have h5 : Below wr.heap.size wr w5 := ((Below.refl _ _).drew).trans hb
  exact (h.below h5).below ((Below.refl _ _).alloc (Nat.le_refl _) o)
theorem copy_new {T : TypeId} {W wr w5 : World} {v x : Value} {l : List Ty} {t : Ty} (h : TRow T wr W.heap.size v l) (hs : W.heap.size ≤ wr.heap.size) (hv : TyIs w5 (fun b => wr.drew.heap.size ≤ b ∧ b < w5.heap.size) t x) (o : Obj) :
    TyIs (w5.alloc o) (fun b => W.heap.size ≤ b ∧ b < (w5.alloc o).heap.size ∧ v.ownBlock ≠ some b) t x :=
  (hv.below ((Below.refl _ _).alloc (Nat.le_refl _) o) (fun b hb => hb.2)).mono fun b hb => by
    have h1 : wr.heap.size ≤ b := hb.1
    refine ⟨by omega, by have := hb.2; simp; omega, fun e => ?_⟩
    have := (h.lt e).2
    omega
theorem copy_box {T : TypeId} {W wr w5 w6 : World} {v v' : Value} {l : List Ty} {H : Nat} {A : Array Value} {t : TypeId} {o : Obj} (ht : TStep (w5.alloc o) v w6 v') (hz : w5.heap[H + 1 + 1]? = some (.cells A t (0, 0))) (h : TRow T wr W.heap.size v l) (hs : W.heap.size = H + 3) : w6.heap[H + 1 + 1]? = some (.cells A t (0, 0)) := by
  have hlt := lt_of_block hz
  refine (ht.1.block _ (by simp; omega) ?_).trans ((heap_alloc_old _ _ hlt).trans hz)
  intro hm
  have := (h.lt (Option.mem_toList.1 hm)).1
  omega
theorem TRow.chg {T : TypeId} {F : List Nat} {w w' : World} {base : Nat} {v : Value} {l : List Ty} (h : TRow T w base v l) (hc : Chg F w w') (hF : ∀ k ∈ F, k < base) : TRow T w' base v l := by
  obtain ⟨ps, h1, h2, h3, h4⟩ := h
  refine ⟨ps, h1, h2.chg hc (fun k hk hm => by have := h3 k hk; have := hF k hm; omega), h3, fun i t p ht hp => ?_⟩
  exact ((h4 i t p ht hp).chg hc (fun b hb => ⟨hb.2.1, fun hm => by have := hF b hm; omega⟩)).mono fun b hb' => ⟨hb'.1, Nat.lt_of_lt_of_le hb'.2.1 hc.size, hb'.2.2⟩
theorem copy_next {T : TypeId} {W wr w5 w6 : World} {H g6 cap6 cr : Nat} {ar : Option Addr} {x0 x1 : Int} {x2 : ByteArray} {l li : List Ty} {tk : Ty} {i gk : Nat} {o : Obj} (hli : li = l.take i) (htk : l[i]? = some tk) (hik : i + gk = l.length) (hlt : i < l.length) (hc : Chg [H + 1 + 1] W wr)
    (hr : TRow T wr W.heap.size (.slice ar li.length cr) li) (h5 : Below wr.drew.heap.size wr.drew w5) (ht : TStep (w5.alloc o) (.slice ar li.length cr) w6 (.slice (some ⟨g6, 0, none⟩) (li.length + 1) cap6)) (h6 : TRow T w6 W.heap.size (.slice (some ⟨g6, 0, none⟩) (li.length + 1) cap6) (li ++ [tk]))
    (hz : w6.heap[H + 1 + 1]? = some (.cells #[.int .i64 x0, .int .i64 x1, .string x2, .slice ar li.length cr] T (0, 0))) (hs : W.heap.size = H + 3) :
    CopyLoop T W (H + 1 + 1) x0 x1 x2 l (gk - 1) (.int .i64 ((i : Int) + 1)) (w6.setCell ⟨H + 1 + 1, 3, none⟩ (.slice (some ⟨g6, 0, none⟩) (li.length + 1) cap6)) := by
  refine ⟨i + 1, .slice (some ⟨g6, 0, none⟩) (li.length + 1) cap6, by go_num, by omega, (hdr4_set hz).trans rfl, ?_, ?_⟩
  · rw [take_snoc htk, ← hli]
    exact h6.chg (chg1_set _ _ _ _) (by simp; omega)
  · have e1 : Below wr.heap.size wr w5 := ((Below.refl _ _).drew).trans h5
    have e2 : Chg [H + 1 + 1] W (w5.alloc o) := (hc.trans (below_chg e1) (fun k hk => by simp at hk)).alloc o
    have e3 : Chg [H + 1 + 1] W w6 := e2.trans ht.1 (fun k hk => .inr (by have := (hr.lt (Option.mem_toList.1 hk)).1; exact this))
    exact e3.setCell (.inl (by simp)) _
theorem copy_end {T : TypeId} {w W wr wz : World} {H cr n : Nat} {ar : Option Addr} {l : List Ty} (hr : TRow T wr W.heap.size (.slice ar n cr) l) (hz : Chg [H + 1] wr wz) (hb : Below H w wr) (hs : W.heap.size ≤ wr.heap.size) (hw : W.heap.size = H + 3) :
    l.length ≤ cr ∧ cr ≤ maxLen ∧ (ar = none → cr = 0) ∧ TysAt wz (fun b => H ≤ b ∧ b < wz.heap.size) l ar 0 ∧ Below H w wz := by
  obtain ⟨ao, cap, e, h1, h2, h3, h4⟩ := hr.kids
  cases e
  refine ⟨h1, h2, h3, ?_, hb.trans (hz.below (by omega) (by simp))⟩
  exact (h4.chg hz (fun b hb => ⟨hb.2, by simp; omega⟩)).mono fun b hb => ⟨by omega, Nat.lt_of_lt_of_le hb.2 hz.size⟩
set_option maxRecDepth 100000 in
set_option maxHeartbeats 1600000 in
theorem to_walk (k : Nat) : ∀ (t : Ty) (v : Value) (w : World) (P : Nat → Prop), t.sz ≤ k → t.sz ≤ 100000 → TyIs w P t v → (∀ b, P b → b < w.heap.size) →
    Calls Tryd.prog 17 #[v] w (NewTy w t) := by
  induction k with
  | zero => intro t v w P hk; have := t.sz_pos; omega
  | succ k ih =>
    intro t v w P hk hsz ht hP
    obtain ⟨ao, cap, rfl, a1, a2, a3, a4, a5, a6⟩ := ht.get
    have HT := Lib.hid ht
    have HA1 := Lib.hid a1
    have HA2 := Lib.hid a2
    have HA3 := Lib.hid a3
    have HA4 := Lib.hid a4
    have HKL : Hid (t.kids.length < 100000) := Nat.lt_of_lt_of_le t.kids_len hsz
    have HKS : Hid (∀ (i : Nat) (u : Ty), t.kids[i]? = some u → u.sz ≤ k ∧ u.sz ≤ 100000) := fun i u hu => by have := Ty.kid_sz hu; omega
    have HEND : Hid (∀ (e : Ending) (w' : World), (∃ ao cap, e = .returned (.agg #[.int .i64 t.op, .int .i64 t.num, .string t.text, .slice ao t.kids.length cap]) ∧ TyIs w' (fun b => w.heap.size ≤ b ∧ b < w'.heap.size) t (tval t ao cap) ∧ Below w.heap.size w w') → NewTy w t e w') := fun e w' h => h
    have HMK : Hid (∀ (w' : World) ao cap, t.kids.length ≤ cap → cap ≤ maxLen → (ao = none → cap = 0) → TysAt w' (fun b => w.heap.size ≤ b ∧ b < w'.heap.size) t.kids ao 0 → TyIs w' (fun b => w.heap.size ≤ b ∧ b < w'.heap.size) t (tval t ao cap)) := fun w' ao cap h1 h2 h3 h4 => TyIs.mk h1 h2 a3 a4 h3 h4
    clear a1 a3 a4 a5 ht hk hsz
    unfold tval
    unfold maxLen at a2
    have HK6 := Lib.hid a6
    clear a6
    generalize t.op = x0 at *
    generalize t.num = x1 at *
    generalize t.text = x2 at *
    generalize hl : t.kids = l at *
    clear hl
    have hlen : (l.length : Int) ≤ 100000 := by have := HKL.out; omega
    go_enter Tryd.func17, Tryd.ntmps17
    go_wp2
    obtain ⟨W, hW, sW, zA, zB, zC, bW⟩ := three_boxes w #[.int .i64 x0, .int .i64 x1, .string x2, .slice ao l.length cap] #[.int .i64 0, .int .i64 0, .string ⟨#[]⟩, .slice none 0 0] #[.int .i64 x0, .int .i64 x1, .string x2, .slice none 0 0] 40 25 25
    rw [← hW]
    have ZA := Lib.hid zA
    have ZB := Lib.hid zB
    have ZC := Lib.hid zC
    have BW := Lib.hid bW
    have SW := Lib.hid sW
    clear hW sW zA zB zC bW
    have HL : Hid (CopyLoop 25 W (w.heap.size + 1 + 1) x0 x1 x2 l l.length (.int .i64 0) W) := ⟨0, .slice none 0 0, rfl, by omega, ZC.out, TRow.nil _ _, Chg.refl _ _⟩
    go_loopg [4] l.length (fun gk s4 wr => CopyLoop 25 W (w.heap.size + 1 + 1) x0 x1 x2 l gk s4 wr)
    case atStart => exact HL.out
    case round =>
      clear HL
      obtain ⟨i, v, rfl, hik, hz, hr, hc⟩ := hrel
      have hs0 := SW.out
      have hA : wr.heap[w.heap.size]? = some (.cells #[.int .i64 x0, .int .i64 x1, .string x2, .slice ao l.length cap] 40 (0, 0)) := (hc.block w.heap.size (by omega) (by simp; omega)).trans ZA.out
      have hB : wr.heap[w.heap.size + 1]? = some (.cells #[.int .i64 0, .int .i64 0, .string ⟨#[]⟩, .slice none 0 0] 25 (0, 0)) := (hc.block (w.heap.size + 1) (by omega) (by simp)).trans ZB.out
      obtain ⟨li, hli⟩ : ∃ li, li = l.take i := ⟨_, rfl⟩
      rw [← hli] at hr
      have HLI := Lib.hid hli
      clear hli
      obtain ⟨ar, cr, rfl⟩ := hr.form
      obtain ⟨c0, c1, c2, c3, c4⟩ := hdr4_cells hA
      obtain ⟨d0, d1, d2, d3, d4⟩ := hdr4_cells hz
      have HA := Lib.hid hA
      have HB := Lib.hid hB
      have HZ := Lib.hid hz
      have HR := Lib.hid hr
      have HC := Lib.hid hc
      have BWR : Hid (Below w.heap.size w wr) := BW.out.trans (hc.below (by omega) (by simp; omega))
      clear hA hB hz hr hc hs0 c0 c1 c2
      have g0 : (0 : Int) ≤ (i : Int) := by omega
      by_cases hlt : i < l.length
      · have g1 : (i : Int) < (l.length : Int) := by omega
        obtain ⟨tk, htk⟩ : ∃ u, l[i]? = some u := ⟨_, List.getElem?_eq_getElem hlt⟩
        obtain ⟨bb, oo, rfl, hbb⟩ := HK6.out.addr htk
        obtain ⟨_, ak, ck, p0, p1, p2, p3, hvk⟩ := HK6.out.cells htk
        rw [Nat.zero_add] at p0 p1 p2 p3
        have hbb' := hP _ hbb
        replace p0 := (BWR.out.cell (p := ⟨bb, oo + i * 4, none⟩) hbb').trans p0
        replace p1 := (BWR.out.cell (p := ⟨bb, oo + i * 4 + 1, none⟩) hbb').trans p1
        replace p2 := (BWR.out.cell (p := ⟨bb, oo + i * 4 + 2, none⟩) hbb').trans p2
        replace p3 := (BWR.out.cell (p := ⟨bb, oo + i * 4 + 3, none⟩) hbb').trans p3
        have HCALL := Lib.hid (ih tk _ wr.drew P (HKS.out i tk htk).1 (HKS.out i tk htk).2 ((hvk.below BWR.out hP).keep (fun _ h => h) fun _ _ => by simp) (fun b hb => by have := hP b hb; have := BWR.out.size; simp; omega))
        have HTK := Lib.hid htk
        clear hvk htk
        unfold tval at HCALL
        go_wp2
        go_region_law (first
          | (refine step_callw (w := wr.drew) (by rfl) 17 #[.agg #[.int .i64 tk.op, .int .i64 tk.num, .string tk.text, .slice ak tk.kids.length ck]] ?_ HCALL.out ?_; go_simp; rintro e w5 ⟨ao5, cap5, rfl, hv5, hb5⟩; refine ⟨_, rfl, ?_⟩; have hz5 := (hb5.block (w.heap.size + 1 + 1) (lt_of_block HZ.out)).trans HZ.out; obtain ⟨e0, e1, e2, e3, e4⟩ := hdr4_cells hz5; have e5 := (fun o => (later_box hz5 o).1.2.2.2); have B5 := Lib.hid hb5; have V5 := Lib.hid hv5; have Z5 := Lib.hid hz5; clear hb5 hv5 hz5)
          | (refine step_appt (w := w5.alloc (.cells #[.int .i64 tk.op, .int .i64 tk.num, .string tk.text, .slice ao5 tk.kids.length cap5] 25)) (by rfl) _ _ 23 25 rfl Tryd.underlying23 infoK (base := W.heap.size) (by rfl) (copy_row HR.out B5.out _) (t := tk) (p := (ao5, cap5)) (ad := ⟨w5.heap.size, 0, none⟩) (c := 1) (by rfl) (cell_four_new _ _ _ _ _ _) (copy_new HR.out HC.out.size V5.out _) (by have := HC.out.size; have := B5.out.size; simp at *; omega) (by rw [HLI.out, List.length_take]; omega) ?_; intro g6 cap6 w6 hr6 ht6; have hz6 := copy_box ht6 Z5.out HR.out SW.out; obtain ⟨f0, f1, f2, f3, f4⟩ := hdr4_cells hz6; have R6 := Lib.hid hr6; have T6 := Lib.hid ht6; have Z6 := Lib.hid hz6; clear hr6 ht6 hz6))
        all_goals go_wp2
        all_goals
          go_roundg (gk - 1)
          case measure => omega
          case rel => exact copy_next HLI.out HTK.out hik hlt HC.out HR.out B5.out T6.out R6.out Z6.out SW.out
      · obtain rfl : i = l.length := by omega
        rw [List.take_length] at HLI
        obtain ⟨b0, b1, b2, b3, b4⟩ := hdr4_cells HB.out
        go_wp2
        obtain ⟨z1, z2⟩ := four_ret (y0 := .int .i64 x0) (y1 := .int .i64 x1) (y2 := .string x2) (y3 := .slice ar li.length cr) HB.out
        generalize ((((World.setCell _ _ _).setCell _ _).setCell _ _).setCell _ _) = wz at z1 z2 ⊢
        obtain ⟨y0, y1, y2, y3, _⟩ := hdr4_cells z1
        refine bodyPost_ret (v := .agg #[.int .i64 x0, .int .i64 x1, .string x2, .slice ar li.length cr]) (by simp [results, Tryd.results17, go_sem, y0, y1, y2, y3]) rfl ?_
        rw [HLI.out]
        have hr := HR.out
        rw [HLI.out] at hr
        obtain ⟨n1, n2, n3, n4⟩ := copy_end hr z2 BWR.out HC.out.size SW.out
        exact HEND.out _ _ ⟨ar, cr, rfl, HMK.out _ _ _ n1 n2 n3 n4.1, n4.2⟩
end Go.Proofs.YthchkekegkhanaaDoor
/- The laws' from: a copy of a type. -/
namespace Go.Proofs.YthchkekegkhanaaDoor
open Go.RowKit Go.Maps
set_option linter.unusedVariables false

set_option maxRecDepth 100000 in
set_option maxHeartbeats 1600000 in
theorem from_walk (k : Nat) : ∀ (t : Ty) (v : Value) (w : World) (P : Nat → Prop), t.sz ≤ k → t.sz ≤ 100000 → TyIs w P t v → (∀ b, P b → b < w.heap.size) →
    Calls Tryd.prog 22 #[v] w (NewTy w t) := by
  induction k with
  | zero => intro t v w P hk; have := t.sz_pos; omega
  | succ k ih =>
    intro t v w P hk hsz ht hP
    obtain ⟨ao, cap, rfl, a1, a2, a3, a4, a5, a6⟩ := ht.get
    have HT := Lib.hid ht
    have HA1 := Lib.hid a1
    have HA2 := Lib.hid a2
    have HA3 := Lib.hid a3
    have HA4 := Lib.hid a4
    have HKL : Hid (t.kids.length < 100000) := Nat.lt_of_lt_of_le t.kids_len hsz
    have HKS : Hid (∀ (i : Nat) (u : Ty), t.kids[i]? = some u → u.sz ≤ k ∧ u.sz ≤ 100000) := fun i u hu => by have := Ty.kid_sz hu; omega
    have HEND : Hid (∀ (e : Ending) (w' : World), (∃ ao cap, e = .returned (.agg #[.int .i64 t.op, .int .i64 t.num, .string t.text, .slice ao t.kids.length cap]) ∧ TyIs w' (fun b => w.heap.size ≤ b ∧ b < w'.heap.size) t (tval t ao cap) ∧ Below w.heap.size w w') → NewTy w t e w') := fun e w' h => h
    have HMK : Hid (∀ (w' : World) ao cap, t.kids.length ≤ cap → cap ≤ maxLen → (ao = none → cap = 0) → TysAt w' (fun b => w.heap.size ≤ b ∧ b < w'.heap.size) t.kids ao 0 → TyIs w' (fun b => w.heap.size ≤ b ∧ b < w'.heap.size) t (tval t ao cap)) := fun w' ao cap h1 h2 h3 h4 => TyIs.mk h1 h2 a3 a4 h3 h4
    clear a1 a3 a4 a5 ht hk hsz
    unfold tval
    unfold maxLen at a2
    have HK6 := Lib.hid a6
    clear a6
    generalize t.op = x0 at *
    generalize t.num = x1 at *
    generalize t.text = x2 at *
    generalize hl : t.kids = l at *
    clear hl
    have hlen : (l.length : Int) ≤ 100000 := by have := HKL.out; omega
    go_enter Tryd.func22, Tryd.ntmps22
    go_wp2
    obtain ⟨W, hW, sW, zA, zB, zC, bW⟩ := three_boxes w #[.int .i64 x0, .int .i64 x1, .string x2, .slice ao l.length cap] #[.int .i64 0, .int .i64 0, .string ⟨#[]⟩, .slice none 0 0] #[.int .i64 x0, .int .i64 x1, .string x2, .slice none 0 0] 25 40 40
    rw [← hW]
    have ZA := Lib.hid zA
    have ZB := Lib.hid zB
    have ZC := Lib.hid zC
    have BW := Lib.hid bW
    have SW := Lib.hid sW
    clear hW sW zA zB zC bW
    have HL : Hid (CopyLoop 40 W (w.heap.size + 1 + 1) x0 x1 x2 l l.length (.int .i64 0) W) := ⟨0, .slice none 0 0, rfl, by omega, ZC.out, TRow.nil _ _, Chg.refl _ _⟩
    go_loopg [4] l.length (fun gk s4 wr => CopyLoop 40 W (w.heap.size + 1 + 1) x0 x1 x2 l gk s4 wr)
    case atStart => exact HL.out
    case round =>
      clear HL
      obtain ⟨i, v, rfl, hik, hz, hr, hc⟩ := hrel
      have hs0 := SW.out
      have hA : wr.heap[w.heap.size]? = some (.cells #[.int .i64 x0, .int .i64 x1, .string x2, .slice ao l.length cap] 25 (0, 0)) := (hc.block w.heap.size (by omega) (by simp; omega)).trans ZA.out
      have hB : wr.heap[w.heap.size + 1]? = some (.cells #[.int .i64 0, .int .i64 0, .string ⟨#[]⟩, .slice none 0 0] 40 (0, 0)) := (hc.block (w.heap.size + 1) (by omega) (by simp)).trans ZB.out
      obtain ⟨li, hli⟩ : ∃ li, li = l.take i := ⟨_, rfl⟩
      rw [← hli] at hr
      have HLI := Lib.hid hli
      clear hli
      obtain ⟨ar, cr, rfl⟩ := hr.form
      obtain ⟨c0, c1, c2, c3, c4⟩ := hdr4_cells hA
      obtain ⟨d0, d1, d2, d3, d4⟩ := hdr4_cells hz
      have HA := Lib.hid hA
      have HB := Lib.hid hB
      have HZ := Lib.hid hz
      have HR := Lib.hid hr
      have HC := Lib.hid hc
      have BWR : Hid (Below w.heap.size w wr) := BW.out.trans (hc.below (by omega) (by simp; omega))
      clear hA hB hz hr hc hs0 c0 c1 c2
      have g0 : (0 : Int) ≤ (i : Int) := by omega
      by_cases hlt : i < l.length
      · have g1 : (i : Int) < (l.length : Int) := by omega
        obtain ⟨tk, htk⟩ : ∃ u, l[i]? = some u := ⟨_, List.getElem?_eq_getElem hlt⟩
        obtain ⟨bb, oo, rfl, hbb⟩ := HK6.out.addr htk
        obtain ⟨_, ak, ck, p0, p1, p2, p3, hvk⟩ := HK6.out.cells htk
        rw [Nat.zero_add] at p0 p1 p2 p3
        have hbb' := hP _ hbb
        replace p0 := (BWR.out.cell (p := ⟨bb, oo + i * 4, none⟩) hbb').trans p0
        replace p1 := (BWR.out.cell (p := ⟨bb, oo + i * 4 + 1, none⟩) hbb').trans p1
        replace p2 := (BWR.out.cell (p := ⟨bb, oo + i * 4 + 2, none⟩) hbb').trans p2
        replace p3 := (BWR.out.cell (p := ⟨bb, oo + i * 4 + 3, none⟩) hbb').trans p3
        have HCALL := Lib.hid (ih tk _ wr.drew P (HKS.out i tk htk).1 (HKS.out i tk htk).2 ((hvk.below BWR.out hP).keep (fun _ h => h) fun _ _ => by simp) (fun b hb => by have := hP b hb; have := BWR.out.size; simp; omega))
        have HTK := Lib.hid htk
        clear hvk htk
        unfold tval at HCALL
        go_wp2
        go_region_law (first
          | (refine step_callw (w := wr.drew) (by rfl) 22 #[.agg #[.int .i64 tk.op, .int .i64 tk.num, .string tk.text, .slice ak tk.kids.length ck]] ?_ HCALL.out ?_; go_simp; rintro e w5 ⟨ao5, cap5, rfl, hv5, hb5⟩; refine ⟨_, rfl, ?_⟩; have hz5 := (hb5.block (w.heap.size + 1 + 1) (lt_of_block HZ.out)).trans HZ.out; obtain ⟨e0, e1, e2, e3, e4⟩ := hdr4_cells hz5; have e5 := (fun o => (later_box hz5 o).1.2.2.2); have B5 := Lib.hid hb5; have V5 := Lib.hid hv5; have Z5 := Lib.hid hz5; clear hb5 hv5 hz5)
          | (refine step_appt (w := w5.alloc (.cells #[.int .i64 tk.op, .int .i64 tk.num, .string tk.text, .slice ao5 tk.kids.length cap5] 40)) (by rfl) _ _ 22 40 rfl Tryd.underlying22 infoR (base := W.heap.size) (by rfl) (copy_row HR.out B5.out _) (t := tk) (p := (ao5, cap5)) (ad := ⟨w5.heap.size, 0, none⟩) (c := 1) (by rfl) (cell_four_new _ _ _ _ _ _) (copy_new HR.out HC.out.size V5.out _) (by have := HC.out.size; have := B5.out.size; simp at *; omega) (by rw [HLI.out, List.length_take]; omega) ?_; intro g6 cap6 w6 hr6 ht6; have hz6 := copy_box ht6 Z5.out HR.out SW.out; obtain ⟨f0, f1, f2, f3, f4⟩ := hdr4_cells hz6; have R6 := Lib.hid hr6; have T6 := Lib.hid ht6; have Z6 := Lib.hid hz6; clear hr6 ht6 hz6))
        all_goals go_wp2
        all_goals
          go_roundg (gk - 1)
          case measure => omega
          case rel => exact copy_next HLI.out HTK.out hik hlt HC.out HR.out B5.out T6.out R6.out Z6.out SW.out
      · obtain rfl : i = l.length := by omega
        rw [List.take_length] at HLI
        obtain ⟨b0, b1, b2, b3, b4⟩ := hdr4_cells HB.out
        go_wp2
        obtain ⟨z1, z2⟩ := four_ret (y0 := .int .i64 x0) (y1 := .int .i64 x1) (y2 := .string x2) (y3 := .slice ar li.length cr) HB.out
        generalize ((((World.setCell _ _ _).setCell _ _).setCell _ _).setCell _ _) = wz at z1 z2 ⊢
        obtain ⟨y0, y1, y2, y3, _⟩ := hdr4_cells z1
        refine bodyPost_ret (v := .agg #[.int .i64 x0, .int .i64 x1, .string x2, .slice ar li.length cr]) (by simp [results, Tryd.results22, go_sem, y0, y1, y2, y3]) rfl ?_
        rw [HLI.out]
        have hr := HR.out
        rw [HLI.out] at hr
        obtain ⟨n1, n2, n3, n4⟩ := copy_end hr z2 BWR.out HC.out.size SW.out
        exact HEND.out _ _ ⟨ar, cr, rfl, HMK.out _ _ _ n1 n2 n3 n4.1, n4.2⟩
end Go.Proofs.YthchkekegkhanaaDoor
