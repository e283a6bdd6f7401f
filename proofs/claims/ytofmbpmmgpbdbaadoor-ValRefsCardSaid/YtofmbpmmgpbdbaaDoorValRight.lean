/- The program's right: a value in form, all the way down. -/
import Derived.Test.YtofmbpmmgpbdbaaDoorValFits
namespace Go.Proofs.YtofmbpmmgpbdbaaDoor
open Go.RowKit Go.Maps Wr
set_option linter.unusedVariables false

/-- Is one of them not right? -/
def anyWrong (l : List VT) (d : Int) : Bool := !VT.rights l d
theorem anyWrong_nil (d : Int) : anyWrong [] d = false := by simp [anyWrong, VT.rights_nil]
theorem anyWrong_cons (t : VT) (l : List VT) (d : Int) : anyWrong (t :: l) d = (!t.right d || anyWrong l d) := by simp [anyWrong, VT.rights_cons]

/-- What the closure is asked for. -/
def WrongFn (lb : Array Value) (g : FuncId) (l : List VT) (d : Int) (w : World) : Prop :=
  ∀ (W : World) (i : Nat) (t : VT) (ao : Option Addr) (cap : Nat), Below w.heap.size w W → l[i]? = some t → ValIs w (fun b => b < w.heap.size) t (vval t ao cap) →
    Calls Tryd.prog g (#[vval t ao cap] ++ lb) W fun e w' => e = .returned (.bool (!t.right d)) ∧ Below w.heap.size w w'

def IdxLoop (w : World) (l : List VT) (d : Int) (k : Nat) (s8 : Value) (wr : World) : Prop :=
  ∃ i : Nat, s8 = .int .i64 i ∧ i + k = l.length ∧ VT.rights l d = VT.rights (l.drop i) d ∧ Below w.heap.size w wr

set_option maxRecDepth 100000 in
set_option maxHeartbeats 1600000 in
theorem idx_walk (g : FuncId) (lb : Array Value) (eg : ∀ args w, (callFunc g args).run Tryd.prog w = .ok (.enter g args) w) (l : List VT) (d : Int) (ao : Option Addr) (cap : Nat) (w : World) (h1 : l.length ≤ cap) (h2 : cap ≤ maxLen)
    (hk : KidsAt w (fun b => b < w.heap.size) l ao 0) (hp : WrongFn lb g l d w) :
    Calls Tryd.prog 76 #[.slice ao l.length cap, .func (.func g) #[] lb] w fun e w' => (∃ i : Int, e = .returned (.int .i64 i) ∧ decide (0 ≤ i) = anyWrong l d) ∧ Below w.heap.size w w' := by
  unfold maxLen at h2
  have HK := Lib.hid hk
  have HP := Lib.hid hp
  clear hk hp
  go_enter Tryd.func76, Tryd.ntmps76
  go_wp2
  have HL : Hid (IdxLoop w l d l.length (.int .i64 0) w) := ⟨0, rfl, by omega, rfl, Below.refl _ _⟩
  go_loopg [5, 8] l.length (fun k _ s8 wr => IdxLoop w l d k s8 wr)
  case atStart => exact HL.out
  case round =>
    clear HL
    obtain ⟨i, rfl, hik, hr, hb⟩ := hrel
    have HB := Lib.hid hb
    have HR := Lib.hid hr
    clear hb hr
    by_cases hlt : i < l.length
    · obtain ⟨tk, htk⟩ : ∃ u, l[i]? = some u := ⟨_, List.getElem?_eq_getElem hlt⟩
      obtain ⟨bb, oo, _, _, _, _, rfl, hbb, _⟩ := HK.out.get htk
      obtain ⟨_, aok, capk, p0, p1, p2, p3, hvk⟩ := HK.out.cells htk
      rw [Nat.zero_add] at p0 p1 p2 p3
      have cc : ∀ j, wr.cell? ⟨bb, j, none⟩ = w.cell? ⟨bb, j, none⟩ := fun j => HB.out.cell (p := ⟨bb, j, none⟩) hbb
      replace p0 := (cc _).trans p0
      replace p1 := (cc _).trans p1
      replace p2 := (cc _).trans p2
      replace p3 := (cc _).trans p3
      have HC0 := HP.out wr i tk aok capk HB.out htk hvk
      unfold vval at HC0
      have HC := Lib.hid HC0
      clear HC0
      have hdrop := Lib.hid (VT.drop_kid htk)
      have g1' : (i : Int) < (l.length : Int) := by omega
      have hi0 : (0 : Int) ≤ (i : Int) := by omega
      clear hvk htk cc
      have HQ : Hid (VT.rights (tk :: l.drop (i + 1)) d = (tk.right d && VT.rights (l.drop (i + 1)) d)) := VT.rights_cons _ _ _
      generalize tk.right d = q at HC HQ
      generalize tk.kind = x0 at p0 HC
      generalize tk.num = x1 at p1 HC
      generalize tk.text = x2 at p2 HC
      generalize tk.kids.length = x3 at p3 HC
      cases q
      · go_wp2_with (fail)
        refine HC.out.mono ?_
        rintro e w5 ⟨rfl, hb5⟩
        have H5 := Lib.hid hb5
        clear hb5
        go_wp2
        go_ret
        refine ⟨⟨i, rfl, ?_⟩, H5.out⟩
        unfold anyWrong
        rw [HR.out, hdrop.out, HQ.out]
        simp
      · go_wp2_with (fail)
        refine HC.out.mono ?_
        rintro e w5 ⟨rfl, hb5⟩
        have H5 := Lib.hid hb5
        clear hb5
        go_wp2
        go_roundg (gk - 1)
        case measure => omega
        case rel => exact ⟨i + 1, by go_num, by omega, by rw [HR.out, hdrop.out, HQ.out]; simp, H5.out⟩
    · obtain rfl : i = l.length := by omega
      go_wp2
      go_ret
      refine ⟨⟨-1, rfl, ?_⟩, HB.out⟩
      unfold anyWrong
      rw [HR.out, List.drop_length, VT.rights_nil]
      rfl

set_option maxRecDepth 100000 in
theorem contains_walk (g : FuncId) (lb : Array Value) (eg : ∀ args w, (callFunc g args).run Tryd.prog w = .ok (.enter g args) w) (l : List VT) (d : Int) (ao : Option Addr) (cap : Nat) (w : World) (h1 : l.length ≤ cap) (h2 : cap ≤ maxLen)
    (hk : KidsAt w (fun b => b < w.heap.size) l ao 0) (hp : WrongFn lb g l d w) :
    Calls Tryd.prog 51 #[.slice ao l.length cap, .func (.func g) #[] lb] w fun e w' => e = .returned (.bool (anyWrong l d)) ∧ Below w.heap.size w w' := by
  have HI := Lib.hid (idx_walk g lb eg l d ao cap w h1 h2 hk hp)
  clear hk hp
  unfold maxLen at h2
  go_enter Tryd.func51, Tryd.ntmps51
  go_wp2_with ((go_at_call 76; refine HI.out.mono ?_; rintro e w5 ⟨⟨i, rfl, hi⟩, hb5⟩))
  go_ret
  exact ⟨rfl, hb5⟩

theorem cells_below2 {w w5 : World} {a b c d e : Value} {t t2 : TypeId} (h : Below ((w.alloc (.cells #[a, b, c, d] t)).alloc (.cells #[e] t2)).heap.size ((w.alloc (.cells #[a, b, c, d] t)).alloc (.cells #[e] t2)) w5) :
    w5.cell? ⟨w.heap.size, 3, none⟩ = some d ∧ w5.cell? ⟨w.heap.size + 1, 0, none⟩ = some e ∧ Below w.heap.size w w5 := by
  have hb0 := (h.block w.heap.size (by simp; omega)).trans ((heap_alloc_old _ _ (by simp)).trans (heap_alloc_new w _))
  have hs : (w.alloc (.cells #[a, b, c, d] t)).heap.size = w.heap.size + 1 := by simp
  have hn : ((w.alloc (.cells #[a, b, c, d] t)).alloc (.cells #[e] t2)).heap[w.heap.size + 1]? = some (.cells #[e] t2 (0, 0)) := by rw [← hs]; exact heap_alloc_new _ _
  have hb1 := (h.block (w.heap.size + 1) (by simp)).trans hn
  refine ⟨?_, ?_, (((Below.refl _ _).alloc (Nat.le_refl _) _).alloc (by simp) _).trans (h.mono (by simp; omega))⟩
  · simp [World.cell?, hb0]
  · simp [World.cell?, hb1]
theorem lt_of_cell {w : World} {q j : Nat} {v : Value} (h : w.cell? ⟨q, j, none⟩ = some v) : q < w.heap.size := by
  rcases Nat.lt_or_ge q w.heap.size with hlt | hge
  · exact hlt
  · unfold World.cell? at h; rw [Array.getElem?_eq_none hge] at h; cases h
theorem new_ne' (w : World) {q j : Nat} {v : Value} (h : w.cell? ⟨q, j, none⟩ = some v) (o : Obj) : (w.alloc o).cell? ⟨q, j, none⟩ = some v :=
  (((Below.refl w.heap.size w).alloc (Nat.le_refl _) o).cell (p := ⟨q, j, none⟩) (lt_of_cell h)).trans h
set_option maxRecDepth 100000 in
theorem wrong_fn (t : VT) (ao : Option Addr) (cap q : Nat) (d : Int) (w : World) (hc : w.cell? ⟨q, 0, none⟩ = some (.int .i64 d)) (h0 : 0 ≤ d) (h1 : d ≤ 200)
    (HR : Hid (∀ W, Below w.heap.size w W → Calls Tryd.prog 28 #[vval t ao cap, .int .i64 (d + 1)] W fun e w' => e = .returned (.bool (t.right (d + 1))) ∧ Below W.heap.size W w')) :
    Calls Tryd.prog 52 #[vval t ao cap, .pointer (some ⟨q, 0, none⟩)] w fun e w' => e = .returned (.bool (!t.right (d + 1))) ∧ Below w.heap.size w w' := by
  unfold vval at *
  have hq : Hid (q < w.heap.size) := lt_of_cell hc
  have hc2 := fun o => new_ne' w hc o
  generalize t.right (d + 1) = r at *
  generalize t.kind = x0 at *
  generalize t.num = x1 at *
  generalize t.text = x2 at *
  generalize t.kids.length = x3 at *
  go_enter Tryd.func52, Tryd.ntmps52
  go_wp2_with ((go_at_call 28; refine (HR.out _ ((Below.refl _ _).alloc (Nat.le_refl _) _)).mono ?_; rintro e w5 ⟨rfl, hb5⟩; have H5 := Lib.hid hb5; clear hb5))
  go_ret
  exact ⟨rfl, ((Below.refl _ _).alloc (Nat.le_refl _) _).trans (H5.out.mono (by simp))⟩

set_option maxRecDepth 100000 in
set_option maxHeartbeats 1600000 in
theorem right_walk (k : Nat) : ∀ (t : VT) (v : Value) (w : World) (P : Nat → Prop) (d : Int), t.sz ≤ k → ValIs w P t v → (∀ b, P b → b < w.heap.size) → 0 ≤ d → d ≤ 201 →
    Calls Tryd.prog 28 #[v, .int .i64 d] w fun e w' => e = .returned (.bool (t.right d)) ∧ Below w.heap.size w w' := by
  induction k with
  | zero => intro t v w P d hk; cases t; simp [VT.sz] at hk
  | succ k ih =>
    intro t v w P d hk ht hP hd0 hd1
    cases t with
    | node ka na sa la =>
    unfold ValIs at ht
    obtain ⟨ao, cap, rfl, a1, a2, a3, a4, a5, a6, a7⟩ := ht
    have HF := Lib.hid (fun w => valFits_any ka na sa ao la.length cap w a3 a1 a2)
    have A2 := Lib.hid a2
    have IH := Lib.hid ih
    clear ih
    unfold maxLen at a2 a3
    by_cases h200 : d ≤ 200
    · cases hf : fitsB ka na sa la.length
      · rw [hf] at HF
        have hr : (VT.node ka na sa la).right d = false := by rw [VT.right_node, hf]; simp
        rw [hr]
        go_enter Tryd.func28, Tryd.ntmps28
        go_wp2_with ((go_at_call 50; refine (HF.out _).mono ?_; rintro e w5 ⟨rfl, hb5⟩))
        go_ret
        exact ⟨rfl, (((Below.refl _ _).alloc (Nat.le_refl _) _).alloc (by simp) _).trans (hb5.mono (by simp; omega))⟩
      · rw [hf] at HF
        have hr : Hid ((VT.node ka na sa la).right d = !anyWrong la (d + 1)) := by show _ = _; rw [VT.right_node, hf]; simp [h200, anyWrong]
        go_enter Tryd.func28, Tryd.ntmps28
        have HW : Hid (∀ w5 : World, Below w.heap.size w w5 → w5.cell? ⟨w.heap.size + 1, 0, none⟩ = some (.int .i64 d) → Calls Tryd.prog 51 #[.slice ao la.length cap, .func (.func 52) #[] #[.pointer (some ⟨w.heap.size + 1, 0, none⟩)]] w5 fun e w' => e = .returned (.bool (anyWrong la (d + 1))) ∧ Below w5.heap.size w5 w') := by
          intro w5 hb5 hcd
          refine contains_walk _ _ (fun _ _ => by rfl) la (d + 1) ao cap w5 a1 A2.out (a7.keep (fun b hb => Nat.lt_of_lt_of_le (hP b hb) hb5.size) (fun p hp => hb5.cell (hP p.block hp))) ?_
          intro W i t ao' cap' hW hi hv
          have hsz : t.sz ≤ k := by
            have h5 : t.sz < (VT.node ka na sa la).sz := VT.sz_kid (t := VT.node ka na sa la) hi
            omega
          have hlt := lt_of_cell hcd
          refine (wrong_fn t ao' cap' (w.heap.size + 1) d W ((hW.cell (p := ⟨w.heap.size + 1, 0, none⟩) hlt).trans hcd) hd0 h200 ?_).mono ?_
          · intro W2 hW2
            exact IH.out t _ W2 (fun b => b < w5.heap.size) (d + 1) hsz ((hv.below hW (fun b hb => hb)).below hW2 (fun b hb => Nat.lt_of_lt_of_le hb hW.size)) (fun b hb => Nat.lt_of_lt_of_le hb (Nat.le_trans hW.size hW2.size)) (by omega) (by omega)
          · rintro e w' ⟨rfl, hb⟩
            exact ⟨rfl, hW.trans (hb.mono hW.size)⟩
        clear IH a7
        go_wp2_with (first
          | ((go_at_call 50; refine (HF.out _).mono ?_; rintro e w5 ⟨rfl, hb5⟩; obtain ⟨c3, cd, hb6⟩ := cells_below2 hb5; have HB6 := Lib.hid hb6; have CD := Lib.hid cd; clear hb5 hb6 cd))
          | ((go_at_call 51; refine (HW.out _ HB6.out CD.out).mono ?_; rintro e w7 ⟨rfl, hb7⟩; have HB7 := Lib.hid hb7; clear hb7)))
        all_goals
          go_ret
          refine ⟨?_, HB6.out.trans (HB7.out.mono HB6.out.size)⟩
          rw [hr.out]
          rfl
    · have hr : (VT.node ka na sa la).right d = false := by rw [VT.right_node]; simp [h200]
      rw [hr]
      go_enter Tryd.func28, Tryd.ntmps28
      go_wp2
      go_ret
      exact ⟨rfl, ((Below.refl _ _).alloc (Nat.le_refl _) _).alloc (by simp) _⟩
end Go.Proofs.YtofmbpmmgpbdbaaDoor
