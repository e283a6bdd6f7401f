/- The reference's Same of types. -/
import Derived.Test.YthchkekegkhanaaDoorKdFrom
import Derived.StillTailTactics
import Derived.Lib.SliceRun
namespace Go.Proofs.YthchkekegkhanaaDoor
open Go.RowKit
set_option linter.unusedVariables false

namespace Ty
mutual
def same : Ty → Ty → Bool
  | var n, var m => decide (n = m)
  | con c l, con d l' => decide (c = d) && sames l l'
  | _, _ => false
def sames : List Ty → List Ty → Bool
  | [], [] => true
  | t :: l, t' :: l' => same t t' && sames l l'
  | _, _ => false
end
theorem sames_len : ∀ {l l' : List Ty}, sames l l' = true → l.length = l'.length
  | [], [], _ => rfl
  | _ :: _, _ :: _, h => by rw [sames, Bool.and_eq_true] at h; simp [sames_len h.2]
  | [], _ :: _, h => by rw [sames] at h; cases h; all_goals simp
  | _ :: _, [], h => by rw [sames] at h; cases h; all_goals simp
theorem same_con (c : ByteArray) (l l' : List Ty) : (con c l).same (con c l') = sames l l' := by rw [same]; simp
mutual
theorem same_refl : ∀ t : Ty, same t t = true
  | var n => by rw [same]; simp
  | con c l => by rw [same, sames_refl l]; simp
theorem sames_refl : ∀ l : List Ty, sames l l = true
  | [] => by rw [sames]
  | t :: l => by rw [sames, same_refl t, sames_refl l]; rfl
end
end Ty
theorem ret_bool {a b : Bool} (h : a = b) : Ending.returned (.bool a) = .returned (.bool b) := by rw [h]
def SameLoop (N : Nat) (W : World) (la lb : List Ty) (k : Nat) (s : Value) (w : World) : Prop :=
  ∃ i : Nat, s = .int .i64 i ∧ i + k = lb.length ∧ Ty.sames la lb = Ty.sames (la.drop i) (lb.drop i) ∧ Below (N + 2) W w

set_option maxRecDepth 100000 in
set_option maxHeartbeats 1600000 in
theorem refSame_walk (k : Nat) : ∀ (a b : Ty) (va vb : Value) (w : World) (P : Nat → Prop), a.sz ≤ k → TyIs w P a va → TyIs w P b vb → (∀ b, P b → b < w.heap.size) →
    Calls Tryd.prog 21 #[va, vb] w fun e w' => e = .returned (.bool (a.same b)) ∧ Below w.heap.size w w' := by
  induction k with
  | zero => intro a b va vb w P hk; have := a.sz_pos; omega
  | succ k ih =>
    intro a b va vb w P hk ha hb hN
    cases a with
    | var n =>
      obtain ⟨aoa, capa, rfl, a2, _, _⟩ := ha.var
      cases b with
      | var m =>
        obtain ⟨aob, capb, rfl, b2, _, _⟩ := hb.var
        unfold maxLen at a2 b2
        rw [Ty.same]
        clear ha hb
        by_cases h : n = m
        · subst h
          rw [decide_eq_true rfl]
          go_enter Tryd.func21, Tryd.ntmps21
          go_wp2
          go_ret
          exact ⟨rfl, ((Below.refl _ _).alloc (Nat.le_refl _) _).alloc (by simp) _⟩
        · rw [decide_eq_false h]
          go_enter Tryd.func21, Tryd.ntmps21
          go_wp2
          go_ret
          exact ⟨rfl, ((Below.refl _ _).alloc (Nat.le_refl _) _).alloc (by simp) _⟩
      | con d l =>
        obtain ⟨aob, capb, rfl, _, b2, _⟩ := hb.con
        unfold maxLen at a2 b2
        rw [Ty.same]
        · clear ha hb
          go_enter Tryd.func21, Tryd.ntmps21
          go_wp2
          go_ret
          exact ⟨rfl, ((Below.refl _ _).alloc (Nat.le_refl _) _).alloc (by simp) _⟩
        · simp
        · simp
    | con sa la =>
      obtain ⟨aoa, capa, rfl, a1, a2, a3, a6, a7⟩ := ha.con
      cases b with
      | var m =>
        obtain ⟨aob, capb, rfl, b2, _, _⟩ := hb.var
        unfold maxLen at a2 b2
        rw [Ty.same]
        · clear ha hb
          go_enter Tryd.func21, Tryd.ntmps21
          go_wp2
          go_ret
          exact ⟨rfl, ((Below.refl _ _).alloc (Nat.le_refl _) _).alloc (by simp) _⟩
        · simp
        · simp
      | con sb lb =>
      obtain ⟨aob, capb, rfl, b1, b2, b3, b6, b7⟩ := hb.con
      unfold maxLen at a2 a3 b2 b3
      by_cases h3 : sa = sb
      · by_cases h4 : la.length = lb.length
        · subst h3
          clear ha hb
          go_enter Tryd.func21, Tryd.ntmps21
          go_wp2
          have H4 := Lib.hid h4
          clear h4
          generalize hW2 : (w.alloc _).alloc _ = W2
          have hsz2 : W2.heap.size = w.heap.size + 2 := by rw [← hW2]; simp
          have cA : W2.cell? ⟨w.heap.size, 3, none⟩ = some (.slice aoa lb.length capa) := by rw [← hW2]; simp
          have cB : W2.cell? ⟨w.heap.size + 1, 3, none⟩ = some (.slice aob lb.length capb) := by rw [← hW2]; simp
          have hB2 : Hid (Below w.heap.size w W2) := by rw [← hW2]; exact ((Below.refl _ _).alloc (Nat.le_refl _) _).alloc (by simp) _
          have CA := Lib.hid cA
          have CB := Lib.hid cB
          clear hW2 cA cB
          have HL : Hid (SameLoop w.heap.size W2 la lb lb.length (.int .i64 0) W2) := ⟨0, rfl, by omega, rfl, Below.refl _ _⟩
          go_loopg [5] lb.length (fun k s wr => SameLoop w.heap.size W2 la lb k s wr)
          case atStart => exact HL.out
          case round =>
            clear HL
            obtain ⟨i, rfl, hik, hsm, hbe⟩ := hrel
            have HSM := Lib.hid hsm
            have HBE := Lib.hid hbe
            have dA := (hbe.cell (p := ⟨w.heap.size, 3, none⟩) (by show w.heap.size < _; omega)).trans CA.out
            have dB := (hbe.cell (p := ⟨w.heap.size + 1, 3, none⟩) (by show w.heap.size + 1 < _; omega)).trans CB.out
            clear hsm hbe
            by_cases hlt : i < lb.length
            · obtain ⟨ta, hta⟩ : ∃ u, la[i]? = some u := ⟨_, List.getElem?_eq_getElem (by have := H4.out; omega)⟩
              obtain ⟨tb, htb⟩ : ∃ u, lb[i]? = some u := ⟨_, List.getElem?_eq_getElem hlt⟩
              obtain ⟨ba, oa, rfl, hba⟩ := a7.addr hta
              obtain ⟨bb, ob, rfl, hbb⟩ := b7.addr htb
              obtain ⟨_, aka, cka, p0, p1, p2, p3, hva⟩ := a7.cells hta
              obtain ⟨_, akb, ckb, q0, q1, q2, q3, hvb⟩ := b7.cells htb
              rw [Nat.zero_add] at p0 p1 p2 p3 q0 q1 q2 q3
              have HBW : Hid (Below w.heap.size w wr) := hB2.out.trans (HBE.out.mono (by omega))
              have hba' := hN _ hba
              have hbb' := hN _ hbb
              have HN : Hid (∀ b, P b → b < wr.heap.size) := fun b hb => Nat.lt_of_lt_of_le (hN b hb) HBW.out.size
              have hva' := Lib.hid (hva.below HBW.out hN)
              have hvb' := Lib.hid (hvb.below HBW.out hN)
              have hkid : Hid (ta.sz ≤ k) := by
                have h5 : ta.sz < (Ty.con sa la).sz := Ty.kid_sz (t := Ty.con sa la) hta
                show ta.sz ≤ k; omega
              have hdrop : Hid (Ty.sames (la.drop i) (lb.drop i) = (ta.same tb && Ty.sames (la.drop (i + 1)) (lb.drop (i + 1)))) := by
                have e1 : la.drop i = ta :: la.drop (i + 1) := by rw [List.drop_eq_getElem_cons (by have := H4.out; omega)]; congr 1; exact Option.some.inj ((List.getElem?_eq_getElem (by have := H4.out; omega)).symm.trans hta)
                have e2 : lb.drop i = tb :: lb.drop (i + 1) := by rw [List.drop_eq_getElem_cons hlt]; congr 1; exact Option.some.inj ((List.getElem?_eq_getElem hlt).symm.trans htb)
                show _ = _
                rw [e1, e2, Ty.sames]
              replace p0 := (HBW.out.cell (p := ⟨ba, oa + i * 4, none⟩) (by show ba < _; omega)).trans p0
              replace p1 := (HBW.out.cell (p := ⟨ba, oa + i * 4 + 1, none⟩) (by show ba < _; omega)).trans p1
              replace p2 := (HBW.out.cell (p := ⟨ba, oa + i * 4 + 2, none⟩) (by show ba < _; omega)).trans p2
              replace p3 := (HBW.out.cell (p := ⟨ba, oa + i * 4 + 3, none⟩) (by show ba < _; omega)).trans p3
              replace q0 := (HBW.out.cell (p := ⟨bb, ob + i * 4, none⟩) (by show bb < _; omega)).trans q0
              replace q1 := (HBW.out.cell (p := ⟨bb, ob + i * 4 + 1, none⟩) (by show bb < _; omega)).trans q1
              replace q2 := (HBW.out.cell (p := ⟨bb, ob + i * 4 + 2, none⟩) (by show bb < _; omega)).trans q2
              replace q3 := (HBW.out.cell (p := ⟨bb, ob + i * 4 + 3, none⟩) (by show bb < _; omega)).trans q3
              have hi0 : (0 : Int) ≤ (i : Int) := by omega
              have hi1 : (i : Int) < (lb.length : Int) := by omega
              have HCALL := Lib.hid (ih ta tb _ _ wr.drew P hkid.out (hva'.out.keep (fun _ h => h) fun _ _ => by simp) (hvb'.out.keep (fun _ h => h) fun _ _ => by simp) HN.out)
              unfold tval at HCALL
              clear hva hvb hta htb
              go_wp2
              refine region_tail 10 (by kernel_rfl) (by kernel_rfl) ?_
              simp only [List.take_succ_cons, List.take_zero, List.drop_succ_cons, List.drop_zero]
              repeat (refine wpStill_step (fun K hK => ?_); go_simp; (try go_bits); (refine hK _ ?_; clear hK K))
              refine wpStill_nil ?_
              cases hs : ta.same tb
              · go_wp2_with
                  ((go_at_call 21; refine HCALL.out.mono ?_; rintro e w5 ⟨rfl, hb5⟩; have HB5 := Lib.hid hb5; clear hb5; rw [hs]))
                go_ret
                refine ⟨ret_bool ?_, HBW.out.trans ((((Chg.refl [] wr).drewN 1).below (Nat.le_refl _) (by simp)).trans (HB5.out) |>.mono HBW.out.size)⟩
                rw [Ty.same_con, HSM.out, hdrop.out, hs, Bool.false_and]
              · go_wp2_with
                  ((go_at_call 21; refine HCALL.out.mono ?_; rintro e w5 ⟨rfl, hb5⟩; have HB5 := Lib.hid hb5; clear hb5; rw [hs]))
                go_roundg (gk - 1)
                case measure => omega
                case rel => exact ⟨i + 1, by go_num, by omega, by rw [HSM.out, hdrop.out, hs, Bool.true_and], HBE.out.trans ((((Chg.refl [] wr).drewN 1).below (Nat.le_refl _) (by simp)).trans (HB5.out) |>.mono (by have := HBE.out.size; omega))⟩
            · obtain rfl : i = lb.length := by omega
              go_wp2
              go_ret
              refine ⟨ret_bool ?_, hB2.out.trans (HBE.out.mono (by omega))⟩
              rw [Ty.same_con, HSM.out, List.drop_of_length_le (by have := H4.out; omega), List.drop_length, Ty.sames]
        · have hs : (Ty.con sa la).same (Ty.con sb lb) = false := by
            cases h : (Ty.con sa la).same (Ty.con sb lb)
            · rfl
            · rw [Ty.same] at h; simp only [Bool.and_eq_true] at h; exact absurd (Ty.sames_len h.2) h4
          subst h3
          rw [hs]
          clear ha hb
          go_enter Tryd.func21, Tryd.ntmps21
          go_wp2
          go_ret
          exact ⟨rfl, ((Below.refl _ _).alloc (Nat.le_refl _) _).alloc (by simp) _⟩
      · have hs : (Ty.con sa la).same (Ty.con sb lb) = false := by rw [Ty.same]; simp [h3]
        have h3' : ¬ sa.toList = sb.toList := fun e => h3 (text_inj e)
        rw [hs]
        clear ha hb h3
        go_enter Tryd.func21, Tryd.ntmps21
        go_wp2
        go_ret
        exact ⟨rfl, ((Below.refl _ _).alloc (Nat.le_refl _) _).alloc (by simp) _⟩
end Go.Proofs.YthchkekegkhanaaDoor
/- Var and Con of both. -/
namespace Go.Proofs.YthchkekegkhanaaDoor
open Go.RowKit Go.Maps
set_option linter.unusedVariables false

theorem eql_nilK (w : World) (a : Option Addr) (n c : Nat) : (binOp .eql 23 (.slice a n c) (.slice none 0 0)).run Tryd.prog w = .ok (.bool a.isNone) w := Lib.run_eql_slice_nil w _ 25 a n c 0 0 Tryd.underlying23
theorem var_any (n : Int) (w : World) : Calls Tryd.prog 11 #[.int .i64 n] w fun e w' => e = .returned (.agg #[.int .i64 0, .int .i64 n, .string ⟨#[]⟩, .slice none 0 0]) ∧ Below w.heap.size w w' := by
  go_enter Tryd.func11, Tryd.ntmps11
  go_wp2
  exact bodyPost_ret (v := .agg #[.int .i64 0, .int .i64 n, .string ⟨#[]⟩, .slice none 0 0]) (by simp [results, Tryd.results11, go_sem]) rfl ⟨rfl, (Below.refl _ _).alloc (Nat.le_refl _) _⟩
theorem refVar_any (n : Int) (w : World) : Calls Tryd.prog 24 #[.int .i64 n] w fun e w' => e = .returned (.agg #[.int .i64 0, .int .i64 n, .string ⟨#[]⟩, .slice none 0 0]) ∧ Below w.heap.size w w' := by
  go_enter Tryd.func24, Tryd.ntmps24
  go_wp2
  exact bodyPost_ret (v := .agg #[.int .i64 0, .int .i64 n, .string ⟨#[]⟩, .slice none 0 0]) (by simp [results, Tryd.results24, go_sem]) rfl ⟨rfl, (Below.refl _ _).alloc (Nat.le_refl _) _⟩
theorem refCon_any (c : ByteArray) (ao : Option Addr) (n cap : Nat) (w : World) : Calls Tryd.prog 25 #[.string c, .slice ao n cap] w fun e w' => e = .returned (.agg #[.int .i64 1, .int .i64 0, .string c, .slice ao n cap]) ∧ Below w.heap.size w w' := by
  go_enter Tryd.func25, Tryd.ntmps25
  go_wp2
  exact bodyPost_ret (v := .agg #[.int .i64 1, .int .i64 0, .string c, .slice ao n cap]) (by simp [results, Tryd.results25, go_sem]) rfl ⟨rfl, (Below.refl _ _).alloc (Nat.le_refl _) _⟩
set_option maxRecDepth 100000 in
/-- Con without parts. -/
theorem con_nil (c : ByteArray) (w : World) : Calls Tryd.prog 23 #[.string c, .slice none 0 0] w fun e w' => e = .returned (.agg #[.int .i64 1, .int .i64 0, .string c, .slice none 0 0]) ∧ Below w.heap.size w w' := by
  have HC : ∀ W : World, Calls Tryd.prog 39 #[.slice none 0 0] W fun e w' => e = .returned (.slice none 0 0) ∧ W = w' := fun W => by
    have qS := eql_nilK
    go_enter Tryd.func39, Tryd.ntmps39
    go_wp2
    go_ret
    exact ⟨rfl, rfl⟩
  have HC' := Lib.hid HC
  clear HC
  go_enter Tryd.func23, Tryd.ntmps23
  go_wp2_with (go_at_call 39; refine (HC'.out _).mono ?_; rintro e w5 ⟨rfl, rfl⟩)
  exact bodyPost_ret (v := .agg #[.int .i64 1, .int .i64 0, .string c, .slice none 0 0]) (by simp [results, Tryd.results23, go_sem]) rfl ⟨rfl, (Below.refl _ _).alloc (Nat.le_refl _) _⟩

/-- The cells of parts that lie somewhere. -/
theorem TysAt.tcells {w : World} {P : Nat → Prop} {b off : Nat} : ∀ {l : List Ty} {j : Nat}, TysAt w P l (some ⟨b, off, none⟩) j → ∃ ps : List (Option Addr × Nat), ps.length = l.length ∧ (∀ (i : Nat) (t : Ty) (p : Option Addr × Nat), l[i]? = some t → ps[i]? = some p → TyIs w P t (tval t p.1 p.2)) ∧
    ∀ (m : Nat) (u : Value), (Go.Proofs.YthchkekegkhanaaDoor.tcells l ps)[m]? = some u → w.cell? ⟨b, off + j * 4 + m, none⟩ = some u
  | [], j, _ => ⟨[], rfl, fun i t p h => by simp at h, fun m u h => by simp [Go.Proofs.YthchkekegkhanaaDoor.tcells] at h⟩
  | t :: l, j, h => by
    obtain ⟨_, ak, ck, p0, p1, p2, p3, hv⟩ := h.cells (i := 0) rfl
    have h' : TysAt w P l (some ⟨b, off, none⟩) (j + 1) := by
      unfold TysAt at h ⊢
      rw [Ty.vts] at h
      unfold KidsAt at h
      exact h.2
    obtain ⟨ps, q1, q2, q3⟩ := h'.tcells
    refine ⟨(ak, ck) :: ps, by simp [q1], fun i u p hu hp => ?_, fun m u hm => ?_⟩
    · cases i with
      | zero => simp at hu hp; subst hu hp; exact hv
      | succ i => exact q2 i u p (by simpa using hu) (by simpa using hp)
    · rw [Go.Proofs.YthchkekegkhanaaDoor.tcells] at hm
      by_cases h4 : m < 4
      · rw [List.getElem?_append_left (by simpa [tcell] using h4)] at hm
        have : m = 0 ∨ m = 1 ∨ m = 2 ∨ m = 3 := by omega
        rcases this with rfl | rfl | rfl | rfl
        · simp [tcell] at hm; rw [← hm]; exact p0
        · simp [tcell] at hm; rw [← hm]; exact p1
        · simp [tcell] at hm; rw [← hm]; exact p2
        · simp [tcell] at hm; rw [← hm]; exact p3
      · rw [List.getElem?_append_right (by simp [tcell]; omega)] at hm
        have := q3 _ _ hm
        rwa [show off + (j + 1) * 4 + (m - (tcell t (ak, ck)).length) = off + j * 4 + m by simp [tcell]; omega] at this
theorem tcells_one : ∀ {l : List Ty} {ps : List (Option Addr × Nat)}, ∀ u ∈ tcells l ps, u.oneCell' = true
  | [], ps, u, h => by simp [tcells] at h
  | t :: l, [], u, h => by simp [tcells] at h
  | t :: l, p :: ps, u, h => by
    rw [tcells] at h
    rcases List.mem_append.1 h with h | h
    · exact tcell_one t p u h
    · exact tcells_one u h

theorem clone_news {w : World} {b off : Nat} {xs : List Value} (h : ∀ (m : Nat) (u : Value), xs[m]? = some u → w.cell? ⟨b, off + 0 * 4 + m, none⟩ = some u) (hb : b < w.heap.size) (o : Obj) : ∀ (j : Nat) (u : Value), xs[j]? = some u → (w.alloc o).cell? (Addr.add ⟨b, off, none⟩ j) = some u := by
  intro j u hj
  have := h j u hj
  rw [Nat.zero_mul, Nat.add_zero] at this
  rw [Go.WideShapes.add_plain]
  exact (((Below.refl w.heap.size w).alloc (Nat.le_refl _) o).cell (p := ⟨b, off + j, none⟩) hb).trans this
theorem RowZ.form' {w : World} {e : TypeId} {sz n g c : Nat} {xs : List Value} (h : RowZ w e sz (.slice (some ⟨g, 0, none⟩) n c) n xs) : n ≤ c ∧ c ≤ maxLen := by
  obtain ⟨ao, cap, h1, h2, h3, _⟩ := h.form
  cases h1
  exact ⟨h2, h3⟩
theorem clone_row {w w1 : World} {P : Nat → Prop} {g c : Nat} {l : List Ty} {ps : List (Option Addr × Nat)} (hr : RowZ w1 25 4 (.slice (some ⟨g, 0, none⟩) l.length c) l.length (tcells l ps)) (hg : (w.alloc (.cells #[] 25)).grownBy w1 (Value.slice (some ⟨w.heap.size, 0, none⟩) 0 0).ownBlock)
    (hl : (Value.slice (some ⟨w.heap.size, 0, none⟩) 0 0).ownBlock = some g ∨ g = (w.alloc (.cells #[] 25)).heap.size) (h1 : ps.length = l.length) (h2 : ∀ (i : Nat) (t : Ty) (p : Option Addr × Nat), l[i]? = some t → ps[i]? = some p → TyIs w P t (tval t p.1 p.2)) (hP : ∀ b, P b → b < w.heap.size) :
    TysAt w1 (fun b => (P b ∨ w.heap.size ≤ b) ∧ b < w1.heap.size) l (some ⟨g, 0, none⟩) 0 ∧ Below w.heap.size w w1 := by
  have hb : Below w.heap.size w w1 := by
    have hc : Chg [w.heap.size] (w.alloc (.cells #[] 25)) w1 := (Chg.refl _ _).grown hg (fun k hk => .inl (by simp only [Value.ownBlock, Option.some.injEq] at hk; simp [hk]))
    exact ((Below.refl _ _).alloc (Nat.le_refl _) _).trans (hc.below (B := w.heap.size) (by simp) (by simp))
  have hge : w.heap.size ≤ g := by
    rcases hl with e | e
    · simp only [Value.ownBlock, Option.some.injEq] at e; omega
    · simp at e; omega
  refine ⟨TysAt.mk fun i t ht => ?_, hb⟩
  obtain ⟨p, hp⟩ : ∃ p, ps[i]? = some p := ⟨_, List.getElem?_eq_getElem (by have := (List.getElem?_eq_some_iff.1 ht).1; omega)⟩
  have hlen := tcells_length h1
  have hil := (List.getElem?_eq_some_iff.1 ht).1
  have c : ∀ r, r < 4 → w1.cell? ⟨g, i * 4 + r, none⟩ = (tcell t p)[r]? := fun r hr' => by
    rw [← tcells_get ht hp hr']
    exact hr.cellAt _ (by rw [hlen]; omega)
  refine ⟨g, 0, _, _, _, _, rfl, ⟨.inr hge, hr.lt rfl⟩, ?_, ?_, ?_, ?_, ((h2 i t p ht hp).below hb hP).mono fun b hb' => ⟨.inl hb', Nat.lt_of_lt_of_le (hP b hb') hb.size⟩⟩
  · rw [Nat.zero_add, Nat.zero_add]; exact c 0 (by omega)
  · rw [Nat.zero_add, Nat.zero_add]; exact c 1 (by omega)
  · rw [Nat.zero_add, Nat.zero_add]; exact c 2 (by omega)
  · rw [Nat.zero_add, Nat.zero_add]; exact c 3 (by omega)
set_option maxRecDepth 100000 in
/-- A copy of a row of parts; what they lead to is shared. -/
theorem clone_any (l : List Ty) (ao : Option Addr) (cap : Nat) (w : World) (P : Nat → Prop) (h0 : l ≠ []) (hl : l.length ≤ 1000000) (hk : TysAt w P l ao 0) (hP : ∀ b, P b → b < w.heap.size) :
    Calls Tryd.prog 39 #[.slice ao l.length cap] w fun e w' => ∃ g c, e = .returned (.slice (some ⟨g, 0, none⟩) l.length c) ∧ l.length ≤ c ∧ c ≤ maxLen ∧ TysAt w' (fun b => (P b ∨ w.heap.size ≤ b) ∧ b < w'.heap.size) l (some ⟨g, 0, none⟩) 0 ∧ Below w.heap.size w w' := by
  obtain ⟨t, hlt⟩ : ∃ t, l[0]? = some t := by cases l; exact absurd rfl h0; exact ⟨_, rfl⟩
  obtain ⟨b, off, rfl, hb⟩ := hk.addr hlt
  obtain ⟨ps, q1, q2, q3⟩ := hk.tcells
  have hlen := tcells_length q1
  have hpos : 0 < l.length := by cases l; exact absurd rfl h0; simp
  have Q3 := Lib.hid q3
  have Q2 := Lib.hid q2
  have HLEN := Lib.hid hlen
  have Q1 := Lib.hid q1
  clear q1 q2 q3 hlen hk h0 hlt
  have qS := eql_nilK
  go_enter Tryd.func39, Tryd.ntmps39
  go_wp2_with (at_builtin; refine wpList_appz _ rfl _ _ 23 rfl 25 _ 4 56 Tryd.underlying23 infoK rfl (by decide) (.slice (some ⟨w.heap.size, 0, none⟩) 0 0) 0 [] rfl (World.ownsRow_made w #[] 0 (Nat.zero_le _) (Nat.zero_le _) rfl) ⟨b, off, none⟩ l.length cap (tcells l ps) rfl hpos HLEN.out (clone_news Q3.out (hP b hb) _) tcells_one (by omega) (by omega) ?_; intro g c w1 hr1 hg1 hl1)
  rw [Nat.zero_add] at hr1
  rw [List.nil_append] at hr1
  have n1 := clone_row hr1 hg1 hl1 Q1.out Q2.out hP
  have hc := hr1.form'
  go_ret
  exact ⟨g, c, rfl, hc.1, hc.2, n1.1, n1.2⟩

/-- Con with parts: the row is copied, what it leads to is shared. -/
def ConEnd (w : World) (P : Nat → Prop) (c : ByteArray) (l : List Ty) (e : Ending) (w' : World) : Prop :=
  ∃ g cc, e = .returned (.agg #[.int .i64 1, .int .i64 0, .string c, .slice (some ⟨g, 0, none⟩) l.length cc]) ∧ TyIs w' (fun b => (P b ∨ w.heap.size ≤ b) ∧ b < w'.heap.size) (.con c l) (.agg #[.int .i64 1, .int .i64 0, .string c, .slice (some ⟨g, 0, none⟩) l.length cc]) ∧ Below w.heap.size w w'
set_option maxRecDepth 100000 in
theorem con_any (c : ByteArray) (l : List Ty) (ao : Option Addr) (cap : Nat) (w : World) (P : Nat → Prop) (hc : c.size ≤ maxLen) (h0 : l ≠ []) (hl : l.length ≤ 1000000) (hk : TysAt w P l ao 0) (hP : ∀ b, P b → b < w.heap.size) :
    Calls Tryd.prog 23 #[.string c, .slice ao l.length cap] w (ConEnd w P c l) := by
  have HC := Lib.hid (clone_any l ao cap (w.alloc (.cells #[.int .i64 0, .int .i64 0, .string ⟨#[]⟩, .slice none 0 0] 25)) P h0 hl (hk.below ((Below.refl _ _).alloc (Nat.le_refl _) _) hP) (fun b hb => by have := hP b hb; simp; omega))
  have HCS := Lib.hid hc
  clear hk hc
  go_enter Tryd.func23, Tryd.ntmps23
  go_wp2_with (go_at_call 39; refine HC.out.mono ?_; rintro e w5 ⟨g, cc, rfl, h1, h2, h3, h4⟩; have z5 := (h4.block w.heap.size (by simp)).trans (heap_alloc_new w _); obtain ⟨c0, c1, c2, c3, c4⟩ := hdr4_cells z5; have H3 := Lib.hid h3; have H4 := Lib.hid h4; have H1 := Lib.hid h1; have H2 := Lib.hid h2; have Z5 := Lib.hid z5; clear h1 h2 h3 h4 z5)
  obtain ⟨z1, z2⟩ := four_ret (y0 := .int .i64 1) (y1 := .int .i64 0) (y2 := .string c) (y3 := .slice (some ⟨g, 0, none⟩) l.length cc) Z5.out
  generalize ((((World.setCell _ _ _).setCell _ _).setCell _ _).setCell _ _) = wz at z1 z2 ⊢
  obtain ⟨y0, y1, y2, y3, _⟩ := hdr4_cells z1
  refine bodyPost_ret (v := .agg #[.int .i64 1, .int .i64 0, .string c, .slice (some ⟨g, 0, none⟩) l.length cc]) (by simp [results, Tryd.results23, go_sem, y0, y1, y2, y3]) rfl ?_
  refine ⟨g, cc, rfl, TyIs.mk_con H1.out H2.out HCS.out (by simp) ?_, ?_⟩
  · refine (H3.out.chg z2 (fun b hb => ⟨hb.2, ?_⟩)).mono (fun b hb => ⟨?_, Nat.lt_of_lt_of_le hb.2 z2.size⟩)
    · simp only [List.mem_singleton]
      rcases hb.1 with h | h
      · have := hP b h; omega
      · simp at h; omega
    · rcases hb.1 with h | h
      · exact .inl h
      · exact .inr (by simp at h; omega)
  · have hs : w.heap.size ≤ w5.heap.size := by have := H4.out.size; simp at this; omega
    exact (((Below.refl _ _).alloc (Nat.le_refl _) _).trans (H4.out.mono (by simp))).trans (z2.below (B := w.heap.size) hs (by simp))
end Go.Proofs.YthchkekegkhanaaDoor
