/- The reference's Same. -/
import Derived.Test.YtofmbpmmgpbdbaaDoorVal
import Derived.Test.YtofmbpmmgpbdbaaDoorMemZ
import Derived.WideShapes
namespace Go.Proofs.YtofmbpmmgpbdbaaDoor
open Go.RowKit
set_option linter.unusedVariables false

namespace VT
mutual
def sz : VT → Nat
  | node _ _ _ l => 1 + szs l
def szs : List VT → Nat
  | [] => 0
  | t :: l => sz t + szs l
end
theorem sz_get : ∀ {l : List VT} {i : Nat} {t : VT}, l[i]? = some t → t.sz ≤ szs l
  | [], _, _, h => by cases h
  | t :: l, 0, u, h => by rw [List.getElem?_cons_zero] at h; cases h; unfold szs; omega
  | t :: l, i + 1, u, h => by rw [List.getElem?_cons_succ] at h; have := sz_get h; unfold szs; omega
theorem sz_kid {t u : VT} {i : Nat} (h : t.kids[i]? = some u) : u.sz < t.sz := by
  cases t with
  | node k n s l =>
    have h1 : u.sz ≤ szs l := sz_get h
    have h2 : (node k n s l).sz = 1 + szs l := by rw [sz]
    omega
mutual
def same : VT → VT → Bool
  | node k n s l, node k' n' s' l' => decide (k = k') && decide (n = n') && decide (s = s') && sames l l'
def sames : List VT → List VT → Bool
  | [], [] => true
  | t :: l, t' :: l' => same t t' && sames l l'
  | _, _ => false
end
theorem sames_len : ∀ {l l' : List VT}, sames l l' = true → l.length = l'.length
  | [], [], _ => rfl
  | _ :: _, _ :: _, h => by rw [sames, Bool.and_eq_true] at h; simp [sames_len h.2]
  | [], _ :: _, h => by rw [sames] at h; cases h; all_goals simp
  | _ :: _, [], h => by rw [sames] at h; cases h; all_goals simp
theorem same_node (k n : Int) (s : ByteArray) (l l' : List VT) : (node k n s l).same (node k n s l') = sames l l' := by rw [same]; simp
end VT

theorem text_inj {a b : ByteArray} (h : a.toList = b.toList) : a = b := by
  rw [ByteArray.toList_eq, ByteArray.toList_eq] at h
  exact Go.WideShapes.bytes_inj h

def SameLoop (N : Nat) (W : World) (la lb : List VT) (k : Nat) (s : Value) (w : World) : Prop :=
  ∃ i : Nat, s = .int .i64 i ∧ i + k = lb.length ∧ VT.sames la lb = VT.sames (la.drop i) (lb.drop i) ∧ Below (N + 2) W w

set_option maxRecDepth 100000 in
theorem refSame_walk (k : Nat) : ∀ (a b : VT) (va vb : Value) (w : World) (P : Nat → Prop), a.sz ≤ k → ValIs w P a va → ValIs w P b vb → (∀ b, P b → b < w.heap.size) →
    Calls Tryd.prog 15 #[va, vb] w fun e w' => e = .returned (.bool (a.same b)) ∧ Below w.heap.size w w' := by
  induction k with
  | zero => intro a b va vb w P hk; cases a; simp [VT.sz] at hk
  | succ k ih =>
    intro a b va vb w P hk ha hb hN
    cases a with
    | node ka na sa la =>
    cases b with
    | node kb nb sb lb =>
    unfold ValIs at ha hb
    obtain ⟨aoa, capa, rfl, a1, a2, a3, a4, a5, a6, a7⟩ := ha
    obtain ⟨aob, capb, rfl, b1, b2, b3, b4, b5, b6, b7⟩ := hb
    by_cases h1 : ka = kb
    · by_cases h2 : na = nb
      · by_cases h3 : sa = sb
        · by_cases h4 : la.length = lb.length
          · subst h1 h2 h3
            unfold maxLen at a2 a3 b2 b3
            go_enter Tryd.func15, Tryd.ntmps15
            go_wp2
            have H4 := Lib.hid h4
            clear h4
            generalize hW2 : (w.alloc _).alloc _ = W2
            have hsz2 : W2.heap.size = w.heap.size + 2 := by rw [← hW2]; simp
            have cA : W2.cell? ⟨w.heap.size, 3, none⟩ = some (.slice aoa lb.length capa) := by rw [← hW2]; simp
            have cB : W2.cell? ⟨w.heap.size + 1, 3, none⟩ = some (.slice aob lb.length capb) := by rw [← hW2]; simp
            have hB2 : Hid (Below w.heap.size w W2) := by rw [← hW2]; exact ((Below.refl _ _).alloc (Nat.le_refl _) _).alloc (by simp) _
            have CA := Lib.hid cA
            have CB := Lib.hid cB
            clear hW2 cA cB
            have HL : Hid (SameLoop w.heap.size W2 la lb lb.length (.int .i64 0) W2) := ⟨0, rfl, by omega, rfl, Below.refl _ _⟩
            go_loopg [5] lb.length (fun k s wr => SameLoop w.heap.size W2 la lb k s wr)
            case atStart => exact HL.out
            case round =>
              clear HL
              obtain ⟨i, rfl, hik, hsm, hbe⟩ := hrel
              have HSM := Lib.hid hsm
              have HBE := Lib.hid hbe
              have dA := (hbe.cell (p := ⟨w.heap.size, 3, none⟩) (by show w.heap.size < _; omega)).trans CA.out
              have dB := (hbe.cell (p := ⟨w.heap.size + 1, 3, none⟩) (by show w.heap.size + 1 < _; omega)).trans CB.out
              clear hsm hbe
              by_cases hlt : i < lb.length
              · obtain ⟨ta, hta⟩ : ∃ u, la[i]? = some u := ⟨_, List.getElem?_eq_getElem (by have := H4.out; omega)⟩
                obtain ⟨tb, htb⟩ : ∃ u, lb[i]? = some u := ⟨_, List.getElem?_eq_getElem hlt⟩
                obtain ⟨ba, oa, x0, x1, x2, x3, rfl, hba, p0, p1, p2, p3, hva⟩ := a7.get hta
                obtain ⟨bb, ob, y0, y1, y2, y3, rfl, hbb, q0, q1, q2, q3, hvb⟩ := b7.get htb
                rw [Nat.zero_add] at p0 p1 p2 p3 q0 q1 q2 q3
                have HBW : Hid (Below w.heap.size w wr) := hB2.out.trans (HBE.out.mono (by omega))
                have hba' := hN _ hba
                have hbb' := hN _ hbb
                have HN : Hid (∀ b, P b → b < wr.heap.size) := fun b hb => Nat.lt_of_lt_of_le (hN b hb) HBW.out.size
                have hva' := Lib.hid (hva.below HBW.out hN)
                have hvb' := Lib.hid (hvb.below HBW.out hN)
                have hkid : Hid (ta.sz ≤ k) := by
                  have h5 : ta.sz < (VT.node ka na sa la).sz := VT.sz_kid (t := VT.node ka na sa la) hta
                  show ta.sz ≤ k; omega
                have hdrop : Hid (VT.sames (la.drop i) (lb.drop i) = (ta.same tb && VT.sames (la.drop (i + 1)) (lb.drop (i + 1)))) := by
                  have e1 : la.drop i = ta :: la.drop (i + 1) := by rw [List.drop_eq_getElem_cons (by have := H4.out; omega)]; congr 1; exact Option.some.inj ((List.getElem?_eq_getElem (by have := H4.out; omega)).symm.trans hta)
                  have e2 : lb.drop i = tb :: lb.drop (i + 1) := by rw [List.drop_eq_getElem_cons hlt]; congr 1; exact Option.some.inj ((List.getElem?_eq_getElem hlt).symm.trans htb)
                  show _ = _
                  rw [e1, e2, VT.sames]
                replace p0 := (HBW.out.cell (p := ⟨ba, oa + i * 4, none⟩) (by show ba < _; omega)).trans p0
                replace p1 := (HBW.out.cell (p := ⟨ba, oa + i * 4 + 1, none⟩) (by show ba < _; omega)).trans p1
                replace p2 := (HBW.out.cell (p := ⟨ba, oa + i * 4 + 2, none⟩) (by show ba < _; omega)).trans p2
                replace p3 := (HBW.out.cell (p := ⟨ba, oa + i * 4 + 3, none⟩) (by show ba < _; omega)).trans p3
                replace q0 := (HBW.out.cell (p := ⟨bb, ob + i * 4, none⟩) (by show bb < _; omega)).trans q0
                replace q1 := (HBW.out.cell (p := ⟨bb, ob + i * 4 + 1, none⟩) (by show bb < _; omega)).trans q1
                replace q2 := (HBW.out.cell (p := ⟨bb, ob + i * 4 + 2, none⟩) (by show bb < _; omega)).trans q2
                replace q3 := (HBW.out.cell (p := ⟨bb, ob + i * 4 + 3, none⟩) (by show bb < _; omega)).trans q3
                have hi0 : (0 : Int) ≤ (i : Int) := by omega
                have hi1 : (i : Int) < (lb.length : Int) := by omega
                clear hva hvb hta htb
                go_wp2
                refine region_tail 10 (by kernel_rfl) (by kernel_rfl) ?_
                simp only [List.take_succ_cons, List.take_zero, List.drop_succ_cons, List.drop_zero]
                repeat (refine wpStill_step (fun K hK => ?_); go_simp; (try go_bits); (refine hK _ ?_; clear hK K))
                refine wpStill_nil ?_
                cases hs : ta.same tb
                · go_wp2_with
                    ((go_at_call 15; refine (ih ta tb _ _ _ P hkid.out (hva'.out.drewN 1) (hvb'.out.drewN 1) HN.out).mono ?_; rintro e w5 ⟨rfl, hb5⟩; have HB5 := Lib.hid hb5; clear hb5; rw [hs]))
                  go_ret
                  refine ⟨ret_bool ?_, HBW.out.trans ((((Chg.refl [] wr).drewN 1).below (Nat.le_refl _) (by simp)).trans (HB5.out) |>.mono HBW.out.size)⟩
                  rw [VT.same_node, HSM.out, hdrop.out, hs, Bool.false_and]
                · go_wp2_with
                    ((go_at_call 15; refine (ih ta tb _ _ _ P hkid.out (hva'.out.drewN 1) (hvb'.out.drewN 1) HN.out).mono ?_; rintro e w5 ⟨rfl, hb5⟩; have HB5 := Lib.hid hb5; clear hb5; rw [hs]))
                  go_roundg (gk - 1)
                  case measure => omega
                  case rel => exact ⟨i + 1, by go_num, by omega, by rw [HSM.out, hdrop.out, hs, Bool.true_and], HBE.out.trans ((((Chg.refl [] wr).drewN 1).below (Nat.le_refl _) (by simp)).trans (HB5.out) |>.mono (by have := HBE.out.size; omega))⟩
              · obtain rfl : i = lb.length := by omega
                go_wp2
                go_ret
                refine ⟨ret_bool ?_, hB2.out.trans (HBE.out.mono (by omega))⟩
                rw [VT.same_node, HSM.out, List.drop_of_length_le (by have := H4.out; omega), List.drop_length, VT.sames]
          · have hs : (VT.node ka na sa la).same (VT.node kb nb sb lb) = false := by
              cases h : (VT.node ka na sa la).same (VT.node kb nb sb lb)
              · rfl
              · rw [VT.same] at h; simp only [Bool.and_eq_true] at h; exact absurd (VT.sames_len h.2) h4
            subst h1 h2 h3
            rw [hs]
            go_enter Tryd.func15, Tryd.ntmps15
            go_wp2
            go_ret
            exact ⟨rfl, ((Below.refl _ _).alloc (Nat.le_refl _) _).alloc (by simp) _⟩
        · have hs : (VT.node ka na sa la).same (VT.node kb nb sb lb) = false := by rw [VT.same]; simp [h3]
          have h3' : ¬ sa.toList = sb.toList := fun e => h3 (text_inj e)
          subst h1 h2
          rw [hs]
          go_enter Tryd.func15, Tryd.ntmps15
          go_wp2
          go_ret
          exact ⟨rfl, ((Below.refl _ _).alloc (Nat.le_refl _) _).alloc (by simp) _⟩
      · have hs : (VT.node ka na sa la).same (VT.node kb nb sb lb) = false := by rw [VT.same]; simp [h2]
        subst h1
        rw [hs]
        go_enter Tryd.func15, Tryd.ntmps15
        go_wp2
        go_ret
        exact ⟨rfl, ((Below.refl _ _).alloc (Nat.le_refl _) _).alloc (by simp) _⟩
    · have hs : (VT.node ka na sa la).same (VT.node kb nb sb lb) = false := by rw [VT.same]; simp [h1]
      rw [hs]
      go_enter Tryd.func15, Tryd.ntmps15
      go_wp2
      go_ret
      exact ⟨rfl, ((Below.refl _ _).alloc (Nat.le_refl _) _).alloc (by simp) _⟩
end Go.Proofs.YtofmbpmmgpbdbaaDoor
