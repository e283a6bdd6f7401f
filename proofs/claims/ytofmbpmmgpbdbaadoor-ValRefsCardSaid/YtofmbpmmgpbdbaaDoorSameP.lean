/- The program's Same: slices.EqualFunc with Same itself. -/
import Derived.Test.YtofmbpmmgpbdbaaDoorTop
namespace Go.Proofs.YtofmbpmmgpbdbaaDoor
open Go.RowKit Go.Maps Wr
set_option linter.unusedVariables false

/-- What the function is asked for. -/
def SameFn (g : FuncId) (la lb : List VT) (w : World) : Prop :=
  ∀ (W : World) (i : Nat) (ta tb : VT) (va vb : Value), Below w.heap.size w W → la[i]? = some ta → lb[i]? = some tb → ValIs w (fun b => b < w.heap.size) ta va → ValIs w (fun b => b < w.heap.size) tb vb →
    Calls Tryd.prog g #[va, vb] W fun e w' => e = .returned (.bool (ta.same tb)) ∧ Below w.heap.size w w'
def EqLoop (w : World) (la lb : List VT) (k : Nat) (s17 : Value) (wr : World) : Prop :=
  ∃ i : Nat, s17 = .int .i64 i ∧ i + k = lb.length ∧ VT.sames la lb = VT.sames (la.drop i) (lb.drop i) ∧ Below w.heap.size w wr

theorem eq_later {w : World} {q : Nat} {j0 j1 j2 j3 : Nat} {a b c d : Value} (h0 : w.cell? ⟨q, j0, none⟩ = some a) (h1 : w.cell? ⟨q, j1, none⟩ = some b) (h2 : w.cell? ⟨q, j2, none⟩ = some c) (h3 : w.cell? ⟨q, j3, none⟩ = some d) (o : Obj) :
    (w.alloc o).cell? ⟨q, j0, none⟩ = some a ∧ (w.alloc o).cell? ⟨q, j1, none⟩ = some b ∧ (w.alloc o).cell? ⟨q, j2, none⟩ = some c ∧ (w.alloc o).cell? ⟨q, j3, none⟩ = some d :=
  ⟨new_ne' w h0 o, new_ne' w h1 o, new_ne' w h2 o, new_ne' w h3 o⟩
set_option maxRecDepth 100000 in
set_option maxHeartbeats 1600000 in
theorem eqf_walk (g : FuncId) (eg : ∀ args w, (callFunc g args).run Tryd.prog w = .ok (.enter g args) w) (la lb : List VT) (ao bo : Option Addr) (ca cb : Nat) (w : World) (h1 : la.length ≤ ca) (h2 : ca ≤ maxLen) (h3 : lb.length ≤ cb) (h4 : cb ≤ maxLen)
    (ka : KidsAt w (fun b => b < w.heap.size) la ao 0) (kb : KidsAt w (fun b => b < w.heap.size) lb bo 0) (hp : SameFn g la lb w) :
    Calls Tryd.prog 37 #[.slice ao la.length ca, .slice bo lb.length cb, .func (.func g) #[] #[]] w fun e w' => e = .returned (.bool (VT.sames la lb)) ∧ Below w.heap.size w w' := by
  unfold maxLen at h2 h4
  by_cases hlen : la.length = lb.length
  · have HLEN := Lib.hid hlen
    have hlq : ((la.length : Int) != (lb.length : Int)) = false := by simp [hlen]
    have KA := Lib.hid ka
    have KB := Lib.hid kb
    have HP := Lib.hid hp
    clear ka kb hp hlen
    go_enter Tryd.func37, Tryd.ntmps37
    go_wp2
    have HL : Hid (EqLoop w la lb lb.length (.int .i64 0) w) := ⟨0, rfl, by omega, rfl, Below.refl _ _⟩
    go_loopg [7, 17] lb.length (fun k _ s17 wr => EqLoop w la lb k s17 wr)
    case atStart => exact HL.out
    case round =>
      clear HL
      obtain ⟨i, rfl, hik, hr, hb⟩ := hrel
      have HB := Lib.hid hb
      have HR := Lib.hid hr
      clear hb hr
      have hi0 : (0 : Int) ≤ (i : Int) := by omega
      by_cases hlt : i < lb.length
      · obtain ⟨ta, hta⟩ : ∃ u, la[i]? = some u := ⟨_, List.getElem?_eq_getElem (by have := HLEN.out; omega)⟩
        obtain ⟨tb, htb⟩ : ∃ u, lb[i]? = some u := ⟨_, List.getElem?_eq_getElem hlt⟩
        obtain ⟨ba, oa, _, _, _, _, rfl, hba, _⟩ := KA.out.get hta
        obtain ⟨bb, ob, _, _, _, _, rfl, hbb, _⟩ := KB.out.get htb
        obtain ⟨_, aoa, capa, p0, p1, p2, p3, hva⟩ := KA.out.cells hta
        obtain ⟨_, aob, capb, q0, q1, q2, q3, hvb⟩ := KB.out.cells htb
        rw [Nat.zero_add] at p0 p1 p2 p3 q0 q1 q2 q3
        have ca : ∀ j, wr.cell? ⟨ba, j, none⟩ = w.cell? ⟨ba, j, none⟩ := fun j => HB.out.cell (p := ⟨ba, j, none⟩) hba
        have cb : ∀ j, wr.cell? ⟨bb, j, none⟩ = w.cell? ⟨bb, j, none⟩ := fun j => HB.out.cell (p := ⟨bb, j, none⟩) hbb
        replace p0 := (ca _).trans p0
        replace p1 := (ca _).trans p1
        replace p2 := (ca _).trans p2
        replace p3 := (ca _).trans p3
        replace q0 := (cb _).trans q0
        replace q1 := (cb _).trans q1
        replace q2 := (cb _).trans q2
        replace q3 := (cb _).trans q3
        have qq := fun o => eq_later q0 q1 q2 q3 o
        have HC0 := fun W hW => HP.out W i ta tb _ _ hW hta htb hva hvb
        unfold vval at HC0
        have HC := Lib.hid HC0
        clear HC0
        have hdrop : Hid (VT.sames (la.drop i) (lb.drop i) = (ta.same tb && VT.sames (la.drop (i + 1)) (lb.drop (i + 1)))) := by
          have e1 : la.drop i = ta :: la.drop (i + 1) := VT.drop_kid hta
          have e2 : lb.drop i = tb :: lb.drop (i + 1) := VT.drop_kid htb
          show _ = _
          rw [e1, e2, VT.sames]
        have g1 : (i : Int) < (la.length : Int) := by have := HLEN.out; omega
        have g2 : (i : Int) < (lb.length : Int) := by omega
        clear hva hvb hta htb ca cb
        generalize ta.same tb = q at HC hdrop
        generalize ta.kind = x0 at p0 HC
        generalize ta.num = x1 at p1 HC
        generalize ta.text = x2 at p2 HC
        generalize ta.kids.length = x3 at p3 HC
        generalize tb.kind = y0 at q0 HC qq
        generalize tb.num = y1 at q1 HC qq
        generalize tb.text = y2 at q2 HC qq
        generalize tb.kids.length = y3 at q3 HC qq
        have hB2 : ∀ o1 o2, Below w.heap.size w ((wr.alloc o1).alloc o2) := fun o1 o2 => (HB.out.trans ((Below.refl _ _).alloc HB.out.size _)).trans ((Below.refl _ _).alloc (by have := HB.out.size; simp; omega) _)
        have HB2 := Lib.hid hB2
        clear hB2
        cases q
        · go_wp2_with (fail)
          refine (HC.out _ (HB2.out _ _)).mono ?_
          rintro e w5 ⟨rfl, hb5⟩
          have H5 := Lib.hid hb5
          clear hb5
          go_wp2
          go_ret
          refine ⟨ret_bool ?_, H5.out⟩
          rw [HR.out, hdrop.out, Bool.false_and]
        · go_wp2_with (fail)
          refine (HC.out _ (HB2.out _ _)).mono ?_
          rintro e w5 ⟨rfl, hb5⟩
          have H5 := Lib.hid hb5
          clear hb5
          go_wp2
          go_roundg (gk - 1)
          case measure => omega
          case rel => exact ⟨i + 1, by go_num, by omega, by rw [HR.out, hdrop.out, Bool.true_and], H5.out⟩
      · obtain rfl : i = lb.length := by omega
        have g1 : ¬ ((lb.length : Int)) < (la.length : Int) := by have := HLEN.out; omega
        go_wp2
        go_ret
        refine ⟨ret_bool ?_, HB.out⟩
        rw [HR.out, List.drop_of_length_le (by have := HLEN.out; omega), List.drop_length, VT.sames]
  · have hlq : ((la.length : Int) != (lb.length : Int)) = true := by simp; omega
    have hs : VT.sames la lb = false := by
      cases h : VT.sames la lb
      · rfl
      · exact absurd (VT.sames_len h) hlen
    rw [hs]
    go_enter Tryd.func37, Tryd.ntmps37
    go_wp2
    go_ret
    exact ⟨rfl, Below.refl _ _⟩

set_option maxRecDepth 100000 in
set_option maxHeartbeats 1600000 in
theorem same_walk (k : Nat) : ∀ (a b : VT) (va vb : Value) (w : World) (P : Nat → Prop), a.sz ≤ k → ValIs w P a va → ValIs w P b vb → (∀ b, P b → b < w.heap.size) →
    Calls Tryd.prog 20 #[va, vb] w fun e w' => e = .returned (.bool (a.same b)) ∧ Below w.heap.size w w' := by
  induction k with
  | zero => intro a b va vb w P hk; cases a; simp [VT.sz] at hk
  | succ k ih =>
    intro a b va vb w P hk ha hb hN
    cases a with
    | node ka na sa la =>
    cases b with
    | node kb nb sb lb =>
    unfold ValIs at ha hb
    obtain ⟨aoa, capa, rfl, a1, a2, a3, a4, a5, a6, a7⟩ := ha
    obtain ⟨aob, capb, rfl, b1, b2, b3, b4, b5, b6, b7⟩ := hb
    by_cases h1 : ka = kb
    · by_cases h2 : na = nb
      · by_cases h3 : sa = sb
        · subst h1 h2 h3
          have HE : Hid (∀ W, Below w.heap.size w W → Calls Tryd.prog 37 #[.slice aoa la.length capa, .slice aob lb.length capb, .func (.func 20) #[] #[]] W fun e w' => e = .returned (.bool (VT.sames la lb)) ∧ Below W.heap.size W w') := by
            intro W hW
            refine eqf_walk _ (fun _ _ => by rfl) la lb aoa aob capa capb W a1 a2 b1 b2 (a7.keep (fun b hb => Nat.lt_of_lt_of_le (hN b hb) hW.size) (fun p hp => hW.cell (hN p.block hp))) (b7.keep (fun b hb => Nat.lt_of_lt_of_le (hN b hb) hW.size) (fun p hp => hW.cell (hN p.block hp))) ?_
            intro W2 i ta tb va vb hW2 hta htb hva hvb
            have hsz : ta.sz ≤ k := by
              have h5 : ta.sz < (VT.node ka na sa la).sz := VT.sz_kid (t := VT.node ka na sa la) hta
              omega
            refine (ih ta tb va vb W2 (fun b => b < W.heap.size) hsz (hva.below hW2 (fun b hb => hb)) (hvb.below hW2 (fun b hb => hb)) (fun b hb => Nat.lt_of_lt_of_le hb hW2.size)).mono ?_
            rintro e w' ⟨rfl, hb⟩
            exact ⟨rfl, hW2.trans (hb.mono hW2.size)⟩
          have hB2 : Hid (∀ o1 o2, Below w.heap.size w ((w.alloc o1).alloc o2)) := fun o1 o2 => ((Below.refl _ _).alloc (Nat.le_refl _) _).trans ((Below.refl _ _).alloc (by simp) _)
          rw [VT.same_node]
          clear a7 b7 ih
          go_enter Tryd.func20, Tryd.ntmps20
          go_wp2_with ((go_at_call 37; refine (HE.out _ (hB2.out _ _)).mono ?_; rintro e w7 ⟨rfl, hb7⟩; have HB7 := Lib.hid ((hB2.out _ _).trans (hb7.mono (by simp; omega))); clear hb7))
          go_ret
          exact ⟨rfl, HB7.out⟩
        · have hs : (VT.node ka na sa la).same (VT.node kb nb sb lb) = false := by rw [VT.same]; simp [h3]
          have h3' : ¬ sa.toList = sb.toList := fun e => h3 (text_inj e)
          subst h1 h2
          rw [hs]
          go_enter Tryd.func20, Tryd.ntmps20
          go_wp2
          go_ret
          exact ⟨rfl, ((Below.refl _ _).alloc (Nat.le_refl _) _).alloc (by simp) _⟩
      · have hs : (VT.node ka na sa la).same (VT.node kb nb sb lb) = false := by rw [VT.same]; simp [h2]
        have h2' : (na == nb) = false := by simpa using h2
        subst h1
        rw [hs]
        go_enter Tryd.func20, Tryd.ntmps20
        go_wp2
        go_ret
        exact ⟨rfl, ((Below.refl _ _).alloc (Nat.le_refl _) _).alloc (by simp) _⟩
    · have hs : (VT.node ka na sa la).same (VT.node kb nb sb lb) = false := by rw [VT.same]; simp [h1]
      have h1' : (ka == kb) = false := by simpa using h1
      rw [hs]
      go_enter Tryd.func20, Tryd.ntmps20
      go_wp2
      go_ret
      exact ⟨rfl, ((Below.refl _ _).alloc (Nat.le_refl _) _).alloc (by simp) _⟩
end Go.Proofs.YtofmbpmmgpbdbaaDoor
