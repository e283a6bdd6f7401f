/- The laws' own tame: of any value a small one; twice is once. -/
import Derived.Test.YtofmbpmmgpbdbaaDoorVals
import Derived.Test.YtofmbpmmgpbdbaaDoorTame
namespace Go.Proofs.YtofmbpmmgpbdbaaDoor
open Go.RowKit Go.Maps Wr
set_option linter.unusedVariables false

theorem cut_cut (s : ByteArray) : cutText (cutText s) = cutText s := by
  have h : (cutText s).size ≤ 5000 := by unfold cutText; rw [ByteArray.size_extract]; omega
  generalize cutText s = x at *
  unfold cutText
  rw [show min x.size 5000 = x.size by omega]
  exact ByteArray.extract_zero_size ..
namespace VT
mutual
theorem tame_tame : ∀ (t : VT) (d left : Int), (tame t d left).1.tame d left = tame t d left
  | node k n s l, d, left => by
    rw [tame]
    simp only
    rw [tame, cut_cut, tames_tames l 12 d (left - 1)]
theorem tames_tames : ∀ (l : List VT) (m : Nat) (d left : Int), tames (tames l m d left).1 m d left = tames l m d left
  | [], m, d, left => by
    have e : tames [] m d left = ([], left) := by rw [tames]
    rw [e, e]
  | t :: ts, m, d, left => by
    rw [tames]
    split
    · rename_i h
      simp only
      rw [tames, if_pos h, tame_tame t (d - 1) left, tames_tames ts (m - 1) d]
    · have e : tames [] m d left = ([], left) := by rw [tames]
      exact e
end
mutual
theorem same_refl : ∀ t : VT, same t t = true
  | node k n s l => by rw [same, sames_refl l]; simp
theorem sames_refl : ∀ l : List VT, sames l l = true
  | [] => by rw [sames]
  | t :: l => by rw [sames, same_refl t, sames_refl l]; rfl
end
end VT
def topTame (t : VT) : VT := (t.tame 210 300).1
theorem topTame_twice (t : VT) : topTame (topTame t) = topTame t := by unfold topTame; rw [VT.tame_tame]

theorem four_stores {F : List Nat} {a b : World} (h : Chg F a b) {p : Nat} (hp : p ∈ F ∨ a.heap.size ≤ p) (x0 x1 x2 x3 : Value) : Chg F a ((((b.setCell ⟨p, 0, none⟩ x0).setCell ⟨p, 1, none⟩ x1).setCell ⟨p, 2, none⟩ x2).setCell ⟨p, 3, none⟩ x3) :=
  (((h.setCell (p := ⟨p, 0, none⟩) hp x0).setCell (p := ⟨p, 1, none⟩) hp x1).setCell (p := ⟨p, 2, none⟩) hp x2).setCell (p := ⟨p, 3, none⟩) hp x3
/-- What the laws' tame ends with. -/
def TopEnd (w : World) (t : VT) (e : Ending) (w' : World) : Prop := ∃ ao cap, e = .returned (.agg #[.int .i64 t.kind, .int .i64 t.num, .string t.text, .slice ao t.kids.length cap]) ∧ ValIs w' (fun b => w.heap.size ≤ b ∧ b < w'.heap.size) t (vval t ao cap) ∧ Below w.heap.size w w'

theorem four_stored {w : World} {H : Nat} {a b c d y0 y1 y2 y3 : Value} {t : TypeId} (h : w.heap[H]? = some (.cells #[a, b, c, d] t (0, 0))) :
    ((((w.setCell ⟨H, 0, none⟩ y0).setCell ⟨H, 1, none⟩ y1).setCell ⟨H, 2, none⟩ y2).setCell ⟨H, 3, none⟩ y3).heap[H]? = some (.cells #[y0, y1, y2, y3] t (0, 0)) := by
  have h2 := hdr4_set (o := 0) (u := y0) h
  have h3 := hdr4_set (o := 1) (u := y1) (a := y0) (b := b) (c := c) (d := d) (h2.trans rfl)
  have h4 := hdr4_set (o := 2) (u := y2) (a := y0) (b := y1) (c := c) (d := d) (h3.trans rfl)
  have h5 := hdr4_set (o := 3) (u := y3) (a := y0) (b := y1) (c := y2) (d := d) (h4.trans rfl)
  exact h5.trans rfl
theorem later_box {w5 : World} {q : Nat} {a b c d : Value} {t : TypeId} (z : w5.heap[q]? = some (.cells #[a, b, c, d] t (0, 0))) (o : Obj) :
    ((w5.alloc o).cell? ⟨q, 0, none⟩ = some a ∧ (w5.alloc o).cell? ⟨q, 1, none⟩ = some b ∧ (w5.alloc o).cell? ⟨q, 2, none⟩ = some c ∧ (w5.alloc o).cell? ⟨q, 3, none⟩ = some d) ∧ ∀ j, (w5.alloc o).frozen? ⟨q, j, none⟩ = false := by
  have h : (w5.alloc o).heap[q]? = some (.cells #[a, b, c, d] t (0, 0)) := (heap_alloc_old _ _ (lt_of_block z)).trans z
  constructor
  · simp [World.cell?, h]
  · intro j; simp [World.frozen?, h]
theorem two_boxes {w w5 : World} {A B : Array Value} {t t2 : TypeId} (h : Below ((w.alloc (.cells A t)).alloc (.cells B t2)).heap.size ((w.alloc (.cells A t)).alloc (.cells B t2)) w5) :
    w5.heap[w.heap.size]? = some (.cells A t (0, 0)) ∧ w5.heap[w.heap.size + 1]? = some (.cells B t2 (0, 0)) ∧ Below w.heap.size w w5 ∧ w.heap.size + 2 ≤ w5.heap.size := by
  have hs : (w.alloc (.cells A t)).heap.size = w.heap.size + 1 := by simp
  have hn : ((w.alloc (.cells A t)).alloc (.cells B t2)).heap[w.heap.size + 1]? = some (.cells B t2 (0, 0)) := by rw [← hs]; exact heap_alloc_new _ _
  have hz := h.size
  refine ⟨(h.block w.heap.size (by simp; omega)).trans ((heap_alloc_old _ _ (by simp)).trans (heap_alloc_new w _)), (h.block (w.heap.size + 1) (by simp)).trans hn, (((Below.refl _ _).alloc (Nat.le_refl _) _).alloc (by simp) _).trans (h.mono (by simp; omega)), by simpa using hz⟩
set_option maxRecDepth 100000 in
theorem top_any (t : VT) (vt : Value) (w : World) (P : Nat → Prop) (hv : ValIs w P t vt) (hP : ∀ x, P x → x < w.heap.size) : Calls Tryd.prog 10 #[vt] w (TopEnd w (topTame t)) := by
  have HT : Hid (∀ W, Below w.heap.size w W → Calls Tryd.prog 25 #[vt, .int .i64 210, .int .i64 300] W (TameEnd W (t.tame 210 300))) := fun W hW => tame_walk t.sz t vt W P 210 300 (Nat.le_refl _) (hv.below hW hP) (fun b hb => Nat.lt_of_lt_of_le (hP b hb) hW.size) (by decide) (by decide) (by decide) (by decide)
  obtain ⟨r, hr⟩ : ∃ r, t.tame 210 300 = r := ⟨_, rfl⟩
  have hq : topTame t = r.1 := by unfold topTame; rw [hr]
  rw [hr] at HT
  rw [hq]
  have hv0 := hv
  obtain ⟨ka, na, sa, la⟩ := t
  unfold ValIs at hv0
  obtain ⟨ao, cap, rfl, a1, a2, a3, a4, a5, a6, a7⟩ := hv0
  clear hv a7 hr hq
  go_enter Tryd.func10, Tryd.ntmps10
  go_wp2_with ((go_at_call 25; refine (HT.out _ (((Below.refl _ _).alloc (Nat.le_refl _) _).alloc (by simp) _)).mono ?_; rintro e w5 ⟨v5, rfl, hv5, hb5⟩; have HV := Lib.hid hv5; have HB := Lib.hid hb5; obtain ⟨t', q'⟩ := r; obtain ⟨k', n', s', l'⟩ := t'; (unfold ValIs at hv5); obtain ⟨ao5, cap5, rfl, q1, q2, q3, q4, q5, q6, q7⟩ := hv5; obtain ⟨z0, z1, z2, z3⟩ := two_boxes hb5; have Z1 := Lib.hid z1; have Z2 := Lib.hid z2; have Z3 := Lib.hid z3; have y0 := (fun o => (later_box z1 o).1.1); have y1 := (fun o => (later_box z1 o).1.2.1); have y2 := (fun o => (later_box z1 o).1.2.2.1); have y3 := (fun o => (later_box z1 o).1.2.2.2); have y4 := (fun o j => (later_box z1 o).2 j); have hne : w5.heap.size ≠ w.heap.size + 1 := (by omega); clear hb5 q7 z0 z1 z2 z3))
  have zz := four_stored (y0 := .int .i64 k') (y1 := .int .i64 n') (y2 := .string s') (y3 := .slice ao5 l'.length cap5) ((heap_alloc_old w5 (.cells #[.int .i64 k', .int .i64 n', .string s', .slice ao5 l'.length cap5] 24) (lt_of_block Z1.out)).trans Z1.out)
  have zc := four_stores ((Chg.refl [w.heap.size + 1] w5).alloc (.cells #[.int .i64 k', .int .i64 n', .string s', .slice ao5 l'.length cap5] 24)) (p := w.heap.size + 1) (.inl (by simp)) (.int .i64 k') (.int .i64 n') (.string s') (.slice ao5 l'.length cap5)
  generalize (((((w5.alloc _).setCell _ _).setCell _ _).setCell _ _).setCell _ _) = wz at zz zc ⊢
  have x0 : wz.cell? ⟨w.heap.size + 1, 0, none⟩ = some (.int .i64 k') := by simp [World.cell?, zz]
  have x1 : wz.cell? ⟨w.heap.size + 1, 1, none⟩ = some (.int .i64 n') := by simp [World.cell?, zz]
  have x2 : wz.cell? ⟨w.heap.size + 1, 2, none⟩ = some (.string s') := by simp [World.cell?, zz]
  have x3 : wz.cell? ⟨w.heap.size + 1, 3, none⟩ = some (.slice ao5 l'.length cap5) := by simp [World.cell?, zz]
  refine bodyPost_ret (v := .agg #[.int .i64 k', .int .i64 n', .string s', .slice ao5 l'.length cap5]) (by simp [results, Tryd.results10, go_sem, x0, x1, x2, x3]) rfl ?_
  refine ⟨ao5, cap5, rfl, ?_, Z2.out.trans (zc.below Z2.out.size (by simp))⟩
  refine (HV.out.chg zc (fun b hb => ⟨hb.2, ?_⟩)).mono (fun b hb => ⟨?_, Nat.lt_of_lt_of_le hb.2 zc.size⟩)
  · have := hb.1; simp at this; simp; omega
  · have := hb.1; simp at this; omega
end Go.Proofs.YtofmbpmmgpbdbaaDoor
