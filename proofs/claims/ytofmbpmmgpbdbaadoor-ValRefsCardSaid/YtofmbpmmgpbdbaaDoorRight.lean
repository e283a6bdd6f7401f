/- The reference's right: a value in form, all the way down. -/
import Derived.Test.YtofmbpmmgpbdbaaDoorFits
namespace Go.Proofs.YtofmbpmmgpbdbaaDoor
open Go.RowKit
set_option linter.unusedVariables false

namespace VT
mutual
def right : VT → Int → Bool
  | node k n s l, d => decide (d ≤ 200) && fitsB k n s l.length && rights l (d + 1)
def rights : List VT → Int → Bool
  | [], _ => true
  | t :: l, d => right t d && rights l d
end
theorem right_node (k n : Int) (s : ByteArray) (l : List VT) (d : Int) : (node k n s l).right d = (decide (d ≤ 200) && fitsB k n s l.length && rights l (d + 1)) := by rw [right]
theorem rights_nil (d : Int) : rights [] d = true := by rw [rights]
theorem rights_cons (t : VT) (l : List VT) (d : Int) : rights (t :: l) d = (right t d && rights l d) := by rw [rights]
theorem drop_kid {l : List VT} {i : Nat} {t : VT} (h : l[i]? = some t) : l.drop i = t :: l.drop (i + 1) := by
  have hi := (List.getElem?_eq_some_iff.1 h).1
  rw [List.drop_eq_getElem_cons hi]; congr 1; exact Option.some.inj ((List.getElem?_eq_getElem hi).symm.trans h)
end VT

def RightLoop (N : Nat) (W : World) (l : List VT) (d : Int) (k : Nat) (s : Value) (w : World) : Prop :=
  ∃ i : Nat, s = .int .i64 i ∧ i + k = l.length ∧ VT.rights l d = VT.rights (l.drop i) d ∧ Below N W w

set_option maxRecDepth 100000 in
set_option maxHeartbeats 1600000 in
theorem refRight_walk (k : Nat) : ∀ (t : VT) (v : Value) (w : World) (P : Nat → Prop) (d : Int), t.sz ≤ k → ValIs w P t v → (∀ b, P b → b < w.heap.size) → 0 ≤ d → d ≤ 201 →
    Calls Tryd.prog 26 #[v, .int .i64 d] w fun e w' => e = .returned (.bool (t.right d)) ∧ Below w.heap.size w w' := by
  induction k with
  | zero => intro t v w P d hk; cases t; simp [VT.sz] at hk
  | succ k ih =>
    intro t v w P d hk ht hP hd0 hd1
    cases t with
    | node ka na sa la =>
    unfold ValIs at ht
    obtain ⟨ao, cap, rfl, a1, a2, a3, a4, a5, a6, a7⟩ := ht
    have hfit := fun w => refFits_any ka na sa ao la.length cap w a3 a1 a2
    have HF := Lib.hid hfit
    clear hfit
    unfold maxLen at a2 a3
    by_cases h200 : d ≤ 200
    · cases hf : fitsB ka na sa la.length
      · rw [hf] at HF
        have hr : (VT.node ka na sa la).right d = false := by rw [VT.right_node, hf]; simp
        rw [hr]
        go_enter Tryd.func26, Tryd.ntmps26
        go_wp2_with ((go_at_call 47; refine (HF.out _).mono ?_; rintro e w5 ⟨rfl, hb5⟩))
        go_ret
        exact ⟨rfl, ((Below.refl _ _).alloc (Nat.le_refl _) _).trans (hb5.mono (by simp))⟩
      · rw [hf] at HF
        have hr : Hid ((VT.node ka na sa la).right d = VT.rights la (d + 1)) := by show _ = _; rw [VT.right_node, hf]; simp [h200]
        go_enter Tryd.func26, Tryd.ntmps26
        go_wp2_with ((go_at_call 47; refine (HF.out _).mono ?_; rintro e w5 ⟨rfl, hb5⟩; have HB5 := Lib.hid hb5; clear hb5))
        have hb6 : Hid (Below w.heap.size w w5) := ((Below.refl _ _).alloc (Nat.le_refl _) _).trans (HB5.out.mono (by simp))
        have hc5 : Hid (w5.cell? ⟨w.heap.size, 3, none⟩ = some (.slice ao la.length cap)) := (HB5.out.cell (p := ⟨w.heap.size, 3, none⟩) (by simp)).trans (by simp)
        have hs5 : Hid (w.heap.size + 1 ≤ w5.heap.size) := by have := HB5.out.size; show _ ≤ _; simpa using this
        clear HB5
        have HL : Hid (RightLoop w5.heap.size w5 la (d + 1) la.length (.int .i64 0) w5) := ⟨0, rfl, by omega, rfl, Below.refl _ _⟩
        go_loopg [5] la.length (fun k s wr => RightLoop w5.heap.size w5 la (d + 1) k s wr)
        case atStart => exact HL.out
        case round =>
          clear HL
          obtain ⟨i, rfl, hik, hsm, hbe⟩ := hrel
          have HSM := Lib.hid hsm
          have HBE := Lib.hid hbe
          have dA := (hbe.cell (p := ⟨w.heap.size, 3, none⟩) (by have := hs5.out; show w.heap.size < _; omega)).trans hc5.out
          have HBW : Hid (Below w.heap.size w wr) := hb6.out.trans (hbe.mono (by have := hs5.out; omega))
          clear hsm hbe
          by_cases hlt : i < la.length
          · obtain ⟨tk, htk⟩ : ∃ u, la[i]? = some u := ⟨_, List.getElem?_eq_getElem hlt⟩
            obtain ⟨bb, oo, x0, x1, x2, x3, rfl, hbb, p0, p1, p2, p3, hvk⟩ := a7.get htk
            rw [Nat.zero_add] at p0 p1 p2 p3
            have hbb' := hP _ hbb
            replace p0 := (HBW.out.cell (p := ⟨bb, oo + i * 4, none⟩) hbb').trans p0
            replace p1 := (HBW.out.cell (p := ⟨bb, oo + i * 4 + 1, none⟩) hbb').trans p1
            replace p2 := (HBW.out.cell (p := ⟨bb, oo + i * 4 + 2, none⟩) hbb').trans p2
            replace p3 := (HBW.out.cell (p := ⟨bb, oo + i * 4 + 3, none⟩) hbb').trans p3
            have hvk' := Lib.hid (hvk.below HBW.out hP)
            have HPB : Hid (∀ b, P b → b < wr.heap.size) := fun b hb => Nat.lt_of_lt_of_le (hP b hb) HBW.out.size
            have hkid : Hid (tk.sz ≤ k) := by
              have h5 : tk.sz < (VT.node ka na sa la).sz := VT.sz_kid (t := VT.node ka na sa la) htk
              show tk.sz ≤ k; omega
            have hdrop := Lib.hid (VT.drop_kid htk)
            have g1' : (i : Int) < (la.length : Int) := by omega
            have hi0 : (0 : Int) ≤ (i : Int) := by omega
            clear hvk htk
            cases hs : tk.right (d + 1)
            · go_wp2_with ((go_at_call 26; refine (ih tk _ _ P (d + 1) hkid.out hvk'.out HPB.out (by omega) (by omega)).mono ?_; rintro e w7 ⟨rfl, hb7⟩; have HB7 := Lib.hid hb7; clear hb7; rw [hs]))
              go_ret
              exact ⟨ret_bool (by rw [hr.out, HSM.out, hdrop.out, VT.rights_cons, hs, Bool.false_and]), HBW.out.trans (HB7.out.mono HBW.out.size)⟩
            · go_wp2_with ((go_at_call 26; refine (ih tk _ _ P (d + 1) hkid.out hvk'.out HPB.out (by omega) (by omega)).mono ?_; rintro e w7 ⟨rfl, hb7⟩; have HB7 := Lib.hid hb7; clear hb7; rw [hs]))
              go_roundg (gk - 1)
              case measure => omega
              case rel => exact ⟨i + 1, by go_num, by omega, by rw [HSM.out, hdrop.out, VT.rights_cons, hs, Bool.true_and], HBE.out.trans (HB7.out.mono HBE.out.size)⟩
          · obtain rfl : i = la.length := by omega
            go_wp2
            go_ret
            exact ⟨ret_bool (by rw [hr.out, HSM.out, List.drop_length, VT.rights_nil]), HBW.out⟩
    · have hr : (VT.node ka na sa la).right d = false := by rw [VT.right_node]; simp [h200]
      rw [hr]
      go_enter Tryd.func26, Tryd.ntmps26
      go_wp2
      go_ret
      exact ⟨rfl, (Below.refl _ _).alloc (Nat.le_refl _) _⟩
end Go.Proofs.YtofmbpmmgpbdbaaDoor
