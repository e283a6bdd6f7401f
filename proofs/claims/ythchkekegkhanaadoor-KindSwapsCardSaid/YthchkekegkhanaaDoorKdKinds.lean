/- The law's kinds. -/
import Derived.Test.YthchkekegkhanaaDoorKdShow3
namespace Go.Proofs.YthchkekegkhanaaDoor
open Go.RowKit Go.Maps
set_option linter.unusedVariables false
variable {R : Nat → Prop}

theorem SolvAt.full_yes {w : World} {p bm n : Nat} {fr : Int} {s : Int → Ty} (h : SolvAt R w p bm n fr s) (t : Ty) (v : Value) (ht : TyIs w (Tr R w.heap.size p bm) t v) (hsz : (t.sub s).sz ≤ 1000) :
    Calls Tryd.prog 10 #[.pointer (some ⟨p, 0, none⟩), v] w (YesEnd w (t.sub s)) := by
  obtain ⟨pr, σ, h⟩ := h
  exact Go.Proofs.YthchkekegkhanaaDoor.full_yes h t v ht hsz
theorem SolvAt.full_no {w : World} {p bm n : Nat} {fr : Int} {s : Int → Ty} (h : SolvAt R w p bm n fr s) (t : Ty) (v : Value) (ht : TyIs w (Tr R w.heap.size p bm) t v) (hsz : ¬ (t.sub s).sz ≤ 1000) :
    Calls Tryd.prog 10 #[.pointer (some ⟨p, 0, none⟩), v] w (NoEnd w 4) := by
  obtain ⟨pr, σ, h⟩ := h
  exact Go.Proofs.YthchkekegkhanaaDoor.full_no h t v ht hsz
theorem newAt_any (w : World) : Calls Tryd.prog 15 #[] w fun e w' => e = .returned (.pointer (some ⟨w.heap.size + 1, 0, none⟩)) ∧ SolvAt R w' (w.heap.size + 1) w.heap.size 0 0 Ty.var ∧ Below w.heap.size w w' ∧ w'.heap.size = w.heap.size + 2 :=
  (new_any (R := R) w).mono fun e w' ⟨h1, h2, h3, h4⟩ => ⟨h1, ⟨0, _, by rw [h4]; exact h2⟩, h3, h4⟩
/-- The name 'list', the name 'int'. -/
def nList : ByteArray := ⟨#[108, 105, 115, 116]⟩
def nInt : ByteArray := ⟨#[105, 110, 116]⟩
theorem uni_list : uni Ty.var (.var 1) (.con nList [.var 1]) = (11, Ty.var) := by
  simp [uni, pairF, pairT, bindF, Ty.sub, Ty.subs, Ty.sz, Ty.szs, Ty.has, Ty.hass]
theorem uni_int : uni Ty.var (.var 1) (.con nInt []) = (0, ext Ty.var 1 (.con nInt [])) := by
  simp [uni, pairF, pairT, bindF, Ty.sub, Ty.subs, Ty.sz, Ty.szs, Ty.has, Ty.hass]
theorem show_one : (Ty.var 1).text' = ⟨#[39, 97]⟩ := by
  rw [Ty.text', Ty.shw, Ty.vrs]; rfl
/-- A solver, and the boxes of two variables. -/
structure KsAt (w W : World) (p bm n : Nat) (s : Int → Ty) (b2 b3 : Nat) (ao : Option Addr) (cap : Nat) : Prop where
  sv : SolvAt (fun _ => True) W p bm n 1 s
  z2 : W.heap[b2]? = some (.cells #[.int .i64 0, .int .i64 1, .string ⟨#[]⟩, .slice none 0 0] 25 (0, 0))
  z3 : W.heap[b3]? = some (.cells #[.int .i64 0, .int .i64 1, .string ⟨#[]⟩, .slice ao 0 cap] 25 (0, 0))
  hb : Below w.heap.size w W
  lo : w.heap.size ≤ p ∧ w.heap.size ≤ bm
  ne : b2 ≠ p ∧ b2 ≠ bm ∧ b3 ≠ p ∧ b3 ≠ bm
  hc : cap ≤ maxLen ∧ (ao = none → cap = 0)
section
variable {w W W' : World} {p bm n n' b2 b3 cap : Nat} {s s' : Int → Ty} {ao : Option Addr}
theorem KsAt.below (h : KsAt w W p bm n s b2 b3 ao cap) (hb : Below W.heap.size W W') : KsAt w W' p bm n s b2 b3 ao cap :=
  ⟨h.sv.chg hb, (hb.block _ (lt_of_block h.z2)).trans h.z2, (hb.block _ (lt_of_block h.z3)).trans h.z3, h.hb.trans (hb.mono h.hb.size), h.lo, h.ne, h.hc⟩
theorem KsAt.step (h : KsAt w W p bm n s b2 b3 ao cap) (hs : SolvAt (fun _ => True) W' p bm n' 1 s') (hc : Chg [p, bm] W W') : KsAt w W' p bm n' s' b2 b3 ao cap := by
  obtain ⟨n1, n2, n3, n4⟩ := h.ne
  refine ⟨hs, (hc.block _ (lt_of_block h.z2) (by simp [n1, n2])).trans h.z2, (hc.block _ (lt_of_block h.z3) (by simp [n3, n4])).trans h.z3, ?_, h.lo, h.ne, h.hc⟩
  exact h.hb.trans (hc.below h.hb.size (fun k hk => by have := h.lo; simp at hk; omega))
theorem KsAt.cells (h : KsAt w W p bm n s b2 b3 ao cap) :
    (W.cell? ⟨b2, 0, none⟩ = some (.int .i64 0) ∧ W.cell? ⟨b2, 1, none⟩ = some (.int .i64 1) ∧ W.cell? ⟨b2, 2, none⟩ = some (.string ⟨#[]⟩) ∧ W.cell? ⟨b2, 3, none⟩ = some (.slice none 0 0)) ∧
    (W.cell? ⟨b3, 0, none⟩ = some (.int .i64 0) ∧ W.cell? ⟨b3, 1, none⟩ = some (.int .i64 1) ∧ W.cell? ⟨b3, 2, none⟩ = some (.string ⟨#[]⟩) ∧ W.cell? ⟨b3, 3, none⟩ = some (.slice ao 0 cap)) := by
  obtain ⟨a0, a1, a2, a3, _⟩ := hdr4_cells h.z2
  obtain ⟨c0, c1, c2, c3, _⟩ := hdr4_cells h.z3
  exact ⟨⟨a0, a1, a2, a3⟩, ⟨c0, c1, c2, c3⟩⟩
end
theorem one_var {w : World} {P : Nat → Prop} {g : Nat} (hz : w.heap[g]? = some (.cells #[.int .i64 0, .int .i64 1, .string ⟨#[]⟩, .slice none 0 0] 25 (0, 0))) (hP : P g) : TysAt w P [.var 1] (some ⟨g, 0, none⟩) 0 := by
  obtain ⟨a0, a1, a2, a3, _⟩ := hdr4_cells hz
  unfold TysAt
  rw [Ty.vts, Ty.vts]
  unfold KidsAt KidsAt
  exact ⟨⟨g, 0, _, _, _, _, rfl, hP, by simpa using a0, by simpa using a1, by simpa using a2, by simpa using a3, TyIs.mk_var (n := 1) (by decide)⟩, trivial⟩
theorem var_cap {w : World} {P : Nat → Prop} {ao : Option Addr} {cap : Nat} (h : cap ≤ maxLen ∧ (ao = none → cap = 0)) : TyIs w P (.var 1) (.agg #[.int .i64 0, .int .i64 1, .string ⟨#[]⟩, .slice ao 0 cap]) :=
  TyIs.mk (t := .var 1) (Nat.zero_le _) h.1 (Nat.zero_le _) (by decide) h.2 TysAt.nil
theorem kinds1 {w W : World} {p bm b2 b3 cap : Nat} {ao : Option Addr} (h : KsAt w W p bm 0 Ty.var b2 b3 ao cap) :
    Calls Tryd.prog 23 #[.string ⟨#[108, 105, 115, 116]⟩, .slice (some ⟨W.heap.size, 0, none⟩) 1 1] (W.alloc (.cells #[.int .i64 0, .int .i64 1, .string ⟨#[]⟩, .slice none 0 0] 25)).drew fun e w' => ∃ g cc, e = .returned (.agg #[.int .i64 1, .int .i64 0, .string ⟨#[108, 105, 115, 116]⟩, .slice (some ⟨g, 0, none⟩) 1 cc]) ∧ KsAt w w' p bm 0 Ty.var b2 b3 ao cap ∧
      TyIs w' (Tr (fun _ => True) w'.heap.size p bm) (.con nList [.var 1]) (.agg #[.int .i64 1, .int .i64 0, .string ⟨#[108, 105, 115, 116]⟩, .slice (some ⟨g, 0, none⟩) 1 cc]) := by
  have hl := h.sv.lt
  have hb1 : Below W.heap.size W (W.alloc (.cells #[.int .i64 0, .int .i64 1, .string ⟨#[]⟩, .slice none 0 0] 25)).drew := ((Below.refl _ _).alloc (Nat.le_refl _) _).drew
  have hz : (W.alloc (.cells #[.int .i64 0, .int .i64 1, .string ⟨#[]⟩, .slice none 0 0] 25)).drew.heap[W.heap.size]? = some (.cells #[.int .i64 0, .int .i64 1, .string ⟨#[]⟩, .slice none 0 0] 25 (0, 0)) := heap_alloc_new W _
  refine (con_any nList [.var 1] (some ⟨W.heap.size, 0, none⟩) 1 _ (fun b => b = W.heap.size) (by decide) (by simp) (by simp) (one_var hz rfl) (fun b hb => by rw [hb]; exact lt_of_block hz)).mono ?_
  rintro e w' ⟨g, cc, rfl, ht, hb⟩
  refine ⟨g, cc, rfl, (h.below hb1).below hb, ht.mono fun b hb' => ⟨hb'.2, ?_, ?_, trivial⟩⟩
  · rcases hb'.1 with e | e
    · omega
    · simp at e; omega
  · rcases hb'.1 with e | e
    · omega
    · simp at e; omega
theorem full_one {w : World} {p bm n : Nat} {fr : Int} (h : SolvAt (fun _ => True) w p bm n fr Ty.var) :
    Calls Tryd.prog 10 #[.pointer (some ⟨p, 0, none⟩), .agg #[.int .i64 0, .int .i64 1, .string ⟨#[]⟩, .slice none 0 0]] w fun e w' => ∃ a c, e = .returned (.tuple #[.agg #[.int .i64 0, .int .i64 1, .string ⟨#[]⟩, .slice a 0 c], .int .i64 0]) ∧ (c ≤ maxLen ∧ (a = none → c = 0)) ∧ Below w.heap.size w w' := by
  have e1 : (Ty.var 1).sub Ty.var = .var 1 := by rw [Ty.sub]
  refine (h.full_yes (.var 1) _ (TyIs.mk_var (by decide)) (by rw [e1]; decide)).mono ?_
  rw [e1]
  rintro e w' ⟨ao, cap, rfl, ht, hb⟩
  obtain ⟨a, c, hv, h1, _, h2⟩ := ht.var
  unfold tval at hv
  injection hv with hv
  have hv := congrArg (fun x => x[3]?) hv
  simp only [List.getElem?_toArray, List.getElem?_cons_succ, List.getElem?_cons_zero, Option.some.injEq] at hv
  injection hv with h3 _ h4
  subst h3 h4
  exact ⟨ao, cap, rfl, ⟨h1, h2⟩, hb⟩
set_option maxRecDepth 100000 in
set_option maxHeartbeats 1600000 in
theorem kinds_any (w : World) : Calls Tryd.prog 12 #[] w fun e w' => e = .returned (.bool true) ∧ Below w.heap.size w w' := by
  go_enter Tryd.func12, Tryd.ntmps12
  go_upto_region 4 with (first
    | (go_at_call 15; refine (newAt_any (R := fun _ => True) _).mono ?_; rintro e w1 ⟨rfl, hs1, hb1, hz1⟩; have S1 := Lib.hid hs1; have B1 := Lib.hid hb1; have Z1 := Lib.hid hz1; clear hs1 hb1 hz1)
    | (go_at_call 14; refine (fresh_any S1.out (by omega) (by omega)).mono ?_; rintro e w2 ⟨rfl, hs2, hc2⟩; have S2 := Lib.hid hs2; have C2 := Lib.hid hc2; clear hs2 hc2)
    | (go_at_call 10; refine (full_one (S2.out.chg ((Below.refl _ _).alloc (Nat.le_refl _) _))).mono ?_; rintro e w3 ⟨a3, p3, rfl, hc3, hb3⟩; have T3 := Lib.hid hc3; have B3 := Lib.hid hb3; clear hc3 hb3))
  obtain ⟨W, hW⟩ : ∃ W, W = w3.alloc (.cells #[.int .i64 0, .int .i64 1, .string ⟨#[]⟩, .slice a3 0 p3] 25) := ⟨_, rfl⟩
  have hK : KsAt w W (w.heap.size + 1) w.heap.size 0 Ty.var w2.heap.size w3.heap.size a3 p3 := by
    have h1 := Z1.out
    have h2 := C2.out.size
    have h3 : w2.heap.size + 1 ≤ w3.heap.size := by have := B3.out.size; simpa using this
    have hb2 : Below w.heap.size w w2 := B1.out.trans (C2.out.below (by omega) (by simp))
    have hb3 : Below w2.heap.size w2 W := by
      rw [hW]
      exact (((Below.refl _ _).alloc (Nat.le_refl _) _).trans (B3.out.mono (by simp))).alloc (by omega) _
    refine ⟨S2.out.chg hb3, ?_, by rw [hW]; exact heap_alloc_new w3 _, hb2.trans (hb3.mono (by omega)), by omega, by omega, T3.out⟩
    rw [hW]
    exact (heap_alloc_old w3 _ (by omega)).trans ((B3.out.block _ (by simp)).trans (heap_alloc_new w2 _))
  rw [← hW]
  clear hW S1 B1 Z1 S2 C2 T3 B3
  generalize w2.heap.size = b2 at hK ⊢
  generalize w3.heap.size = b3 at hK ⊢
  generalize hp : w.heap.size + 1 = p at hK ⊢
  generalize hbm : w.heap.size = bm at hK
  obtain ⟨⟨c0, c1, c2, c3⟩, ⟨d0, d1, d2, d3⟩⟩ := hK.cells
  have H1 := Lib.hid (kinds1 hK)
  have H2 : Hid (∀ W', KsAt w W' p bm 0 Ty.var b2 b3 a3 p3 → ∀ g cc, TyIs W' (Tr (fun _ => True) W'.heap.size p bm) (.con nList [.var 1]) (.agg #[.int .i64 1, .int .i64 0, .string ⟨#[108, 105, 115, 116]⟩, .slice (some ⟨g, 0, none⟩) 1 cc]) → Calls Tryd.prog 13 #[.pointer (some ⟨p, 0, none⟩), .agg #[.int .i64 0, .int .i64 1, .string ⟨#[]⟩, .slice none 0 0], .agg #[.int .i64 1, .int .i64 0, .string ⟨#[108, 105, 115, 116]⟩, .slice (some ⟨g, 0, none⟩) 1 cc]] W' fun e w' => e = .returned (.int .i64 11) ∧ KsAt w w' p bm (0 + 10000) Ty.var b2 b3 a3 p3) := fun W' h g cc ht =>
    (unify_any h.sv (fun _ _ => trivial) (by omega) (.var 1) (.con nList [.var 1]) _ _ (TyIs.mk_var (by decide)) ht (by decide) (by decide)).mono (by rw [uni_list]; rintro e w' ⟨rfl, h1, h2⟩; exact ⟨rfl, h.step h1 h2⟩)
  have H3 : Hid (∀ W', KsAt w W' p bm (0 + 10000) Ty.var b2 b3 a3 p3 → Calls Tryd.prog 28 #[.agg #[.int .i64 0, .int .i64 1, .string ⟨#[]⟩, .slice a3 0 p3]] W' fun e w' => e = .returned (.string ⟨#[39, 97]⟩) ∧ KsAt w w' p bm (0 + 10000) Ty.var b2 b3 a3 p3) := fun W' h =>
    (showAll_any (P := fun _ => False) (t := .var 1) (by decide) trivial (by decide) (var_cap h.hc) (fun _ h => h.elim)).mono (by rw [show_one]; rintro e w' ⟨rfl, h1⟩; exact ⟨rfl, h.below h1⟩)
  have H4 : Hid (∀ W', KsAt w W' p bm (0 + 10000) Ty.var b2 b3 a3 p3 → Calls Tryd.prog 23 #[.string ⟨#[105, 110, 116]⟩, .slice none 0 0] W' fun e w' => e = .returned (.agg #[.int .i64 1, .int .i64 0, .string ⟨#[105, 110, 116]⟩, .slice none 0 0]) ∧ KsAt w w' p bm (0 + 10000) Ty.var b2 b3 a3 p3) := fun W' h =>
    (con_nil _ W').mono (by rintro e w' ⟨rfl, h1⟩; exact ⟨rfl, h.below h1⟩)
  have H5 : Hid (∀ W', KsAt w W' p bm (0 + 10000) Ty.var b2 b3 a3 p3 → Calls Tryd.prog 13 #[.pointer (some ⟨p, 0, none⟩), .agg #[.int .i64 0, .int .i64 1, .string ⟨#[]⟩, .slice none 0 0], .agg #[.int .i64 1, .int .i64 0, .string ⟨#[105, 110, 116]⟩, .slice none 0 0]] W' fun e w' => e = .returned (.int .i64 0) ∧ KsAt w w' p bm (0 + 10000 + 10000) (ext Ty.var 1 (.con nInt [])) b2 b3 a3 p3) := fun W' h =>
    (unify_any h.sv (fun _ _ => trivial) (by omega) (.var 1) (.con nInt []) _ _ (TyIs.mk_var (by decide)) (TyIs.mk_con (c := nInt) (l := []) (Nat.le_refl _) (Nat.zero_le _) (by decide) (fun _ => rfl) TysAt.nil) (by decide) (by decide)).mono (by rw [uni_int]; rintro e w' ⟨rfl, h1, h2⟩; exact ⟨rfl, h.step h1 h2⟩)
  have K0 := Lib.hid hK
  clear hK hp hbm
  go_region_held3 (fun w' => (w'.cell? ⟨b2, 0, none⟩ = some (.int .i64 0) ∧ w'.cell? ⟨b2, 1, none⟩ = some (.int .i64 1) ∧ w'.cell? ⟨b2, 2, none⟩ = some (.string ⟨#[]⟩) ∧ w'.cell? ⟨b2, 3, none⟩ = some (.slice none 0 0)) ∧
    (w'.cell? ⟨b3, 0, none⟩ = some (.int .i64 0) ∧ w'.cell? ⟨b3, 1, none⟩ = some (.int .i64 1) ∧ w'.cell? ⟨b3, 2, none⟩ = some (.string ⟨#[]⟩) ∧ w'.cell? ⟨b3, 3, none⟩ = some (.slice a3 0 p3)))
    (with_reducible (first | exact K5.out.cells | exact K4.out.cells | exact K3.out.cells | exact K2.out.cells | exact K1.out.cells | exact K0.out.cells | go_keep))
    (first
      | (go_at_call 23; with_reducible refine H1.out.mono ?_; clear H1; rintro e w1 ⟨g1, cc1, rfl, hk1, ht1⟩; have K1 := Lib.hid hk1; have T1 := Lib.hid ht1; clear hk1 ht1)
      | (go_at_call 13; with_reducible refine (H2.out _ K1.out _ _ T1.out).mono ?_; clear H2; rintro e w2 ⟨rfl, hk2⟩; have K2 := Lib.hid hk2; clear hk2)
      | (go_at_call 28; with_reducible refine (H3.out _ K2.out).mono ?_; clear H3; rintro e w3 ⟨rfl, hk3⟩; have K3 := Lib.hid hk3; clear hk3)
      | (go_at_call 23; with_reducible refine (H4.out _ K3.out).mono ?_; clear H4; rintro e w4 ⟨rfl, hk4⟩; have K4 := Lib.hid hk4; clear hk4)
      | (go_at_call 13; with_reducible refine (H5.out _ K4.out).mono ?_; clear H5; rintro e w5 ⟨rfl, hk5⟩; have K5 := Lib.hid hk5; clear hk5))
  all_goals go_wp2
  all_goals go_ret
  all_goals exact ⟨rfl, K5.out.hb⟩
end Go.Proofs.YthchkekegkhanaaDoor
