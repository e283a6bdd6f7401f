/- A solver, boxes beside it; variables. -/
import Derived.Test.YthchkekegkhanaaDoorKdKinds
import Derived.Test.YthchkekegkhanaaDoorKdFrom
import Derived.WalkArith
namespace Go.Proofs.YthchkekegkhanaaDoor
open Go.RowKit Go.Maps
set_option linter.unusedVariables false

/-- No types can lie there: no four cells in a row. -/
def Few (w : World) (F : List Nat) : Prop := ∀ k ∈ F, ∀ off, w.cell? ⟨k, off + 3, none⟩ = none
mutual
theorem ValIs.few {w : World} {P : Nat → Prop} {F : List Nat} (hF : Few w F) : ∀ {t : VT} {v : Value}, ValIs w P t v → ValIs w (fun b => P b ∧ b ∉ F) t v
  | .node _ _ _ _, _, h => by
    unfold ValIs at h ⊢
    obtain ⟨ao, cap, h1, h2, h3, h4, h5, h6, h7, h8⟩ := h
    exact ⟨ao, cap, h1, h2, h3, h4, h5, h6, h7, h8.few hF⟩
theorem KidsAt.few {w : World} {P : Nat → Prop} {F : List Nat} (hF : Few w F) : ∀ {l : List VT} {ao : Option Addr} {j : Nat}, KidsAt w P l ao j → KidsAt w (fun b => P b ∧ b ∉ F) l ao j
  | [], _, _, _ => by unfold KidsAt; trivial
  | _ :: _, _, j, h => by
    unfold KidsAt at h ⊢
    obtain ⟨⟨b, off, x0, x1, x2, x3, h1, h2, h3, h4, h5, h6, h7⟩, h8⟩ := h
    refine ⟨⟨b, off, x0, x1, x2, x3, h1, ⟨h2, fun hm => ?_⟩, h3, h4, h5, h6, h7.few hF⟩, h8.few hF⟩
    have := hF b hm (off + j * 4)
    rw [h6] at this
    cases this
end
theorem TyIs.few {w : World} {P : Nat → Prop} {F : List Nat} {t : Ty} {v : Value} (h : TyIs w P t v) (hF : Few w F) : TyIs w (fun b => P b ∧ b ∉ F) t v := ValIs.few hF h
theorem few_three {w : World} {p : Nat} {a b c : Value} {t : TypeId} (h : w.heap[p]? = some (.cells #[a, b, c] t (0, 0))) (off : Nat) : w.cell? ⟨p, off + 3, none⟩ = none := by
  unfold World.cell?
  rw [h]
  simp
theorem few_map {P : Program} {K : TypeId} {w : World} {b n : Nat} {f : Int → Option Value} (h : VMap P K w b n f) (off : Nat) : w.cell? ⟨b, off, none⟩ = none := by
  obtain ⟨D, ⟨es, clock, hb, _⟩, _⟩ := h
  unfold World.cell?
  rw [hb]
theorem SolvAt.few {R : Nat → Prop} {w : World} {p bm n : Nat} {fr : Int} {s : Int → Ty} (h : SolvAt R w p bm n fr s) : Few w [p, bm] := by
  obtain ⟨pr, σ, h⟩ := h
  obtain ⟨f, hf, _⟩ := h.map
  intro k hk off
  simp only [List.mem_cons, List.not_mem_nil, or_false] at hk
  rcases hk with rfl | rfl
  · exact few_three h.hdr off
  · exact few_map hf _
/-- Something else turns, where no types lie. -/
theorem SolvAt.aside {R : Nat → Prop} {w w' : World} {p bm n : Nat} {fr : Int} {s : Int → Ty} {F : List Nat} (h : SolvAt R w p bm n fr s) (hc : Chg F w w') (hF : Few w F) (hp : p ∉ F) (hb : bm ∉ F) : SolvAt R w' p bm n fr s := by
  obtain ⟨pr, σ, h⟩ := h
  obtain ⟨f, hf, hk⟩ := h.map
  have hs := hc.size
  refine ⟨pr, σ, ⟨(hc.block p h.lp hp).trans h.hdr, ⟨f, hf.chg hc hb, fun k => ?_⟩, h.sol, Nat.lt_of_lt_of_le h.lp hs, Nat.lt_of_lt_of_le h.lb hs, h.ne, Nat.le_refl _⟩⟩
  rcases hk k with h1 | ⟨t, v, h1, h2, h3⟩
  · exact .inl h1
  · exact .inr ⟨t, v, h1, h2, ((h3.few hF).chg hc (fun b hb => ⟨hb.1.1, hb.2⟩)).mono fun b hb => ⟨Nat.lt_of_lt_of_le hb.1.1 hs, hb.1.2⟩⟩
/-- What is beside turns, where none of its types lie. -/
theorem SolvAt.beside {w w' : World} {p bm n : Nat} {fr : Int} {s : Int → Ty} {F F' : List Nat} (h : SolvAt (fun b => b ∉ F) w p bm n fr s) (hc : Chg F w w') (hF : Within F F' w.heap.size) (hp : p ∉ F) (hb : bm ∉ F) : SolvAt (fun b => b ∉ F') w' p bm n fr s := by
  obtain ⟨pr, σ, h⟩ := h
  obtain ⟨f, hf, hk⟩ := h.map
  have hs := hc.size
  refine ⟨pr, σ, ⟨(hc.block p h.lp hp).trans h.hdr, ⟨f, hf.chg hc hb, fun k => ?_⟩, h.sol, Nat.lt_of_lt_of_le h.lp hs, Nat.lt_of_lt_of_le h.lb hs, h.ne, Nat.le_refl _⟩⟩
  rcases hk k with h1 | ⟨t, v, h1, h2, h3⟩
  · exact .inl h1
  · refine .inr ⟨t, v, h1, h2, (h3.chg hc (fun b hb => ⟨hb.1, hb.2.2.2⟩)).mono fun b hb => ⟨Nat.lt_of_lt_of_le hb.1 hs, hb.2.1, hb.2.2.1, fun hm => ?_⟩⟩
    rcases hF b hm with e | e
    · exact hb.2.2.2 e
    · have := hb.1; omega

/-! Variables -/
def VC (a : Option Addr) (c : Nat) : Prop := c ≤ maxLen ∧ (a = none → c = 0)
theorem vc_nil : VC none 0 := ⟨Nat.zero_le _, fun _ => rfl⟩
def varV (k : Int) (a : Option Addr) (c : Nat) : Value := .agg #[.int .i64 0, .int .i64 k, .string ⟨#[]⟩, .slice a 0 c]
theorem isVar {w : World} {P : Nat → Prop} {a : Option Addr} {c : Nat} {k : Int} (hk : (Lit.int .i64 k).wf = true) (h : VC a c) : TyIs w P (.var k) (varV k a c) :=
  TyIs.mk (t := .var k) (Nat.zero_le _) h.1 (Nat.zero_le _) hk h.2 TysAt.nil
theorem ofVar {w : World} {P : Nat → Prop} {a : Option Addr} {c : Nat} {k : Int} (h : TyIs w P (.var k) (tval (.var k) a c)) : VC a c ∧ (Lit.int .i64 k).wf = true := by
  obtain ⟨a', c', hv, h1, h2, h3⟩ := h.var
  unfold tval at hv
  injection hv with hv
  have hv := congrArg (fun x => x[3]?) hv
  simp only [List.getElem?_toArray, List.getElem?_cons_succ, List.getElem?_cons_zero, Option.some.injEq] at hv
  injection hv with h4 _ h5
  subst h4 h5
  exact ⟨⟨h1, h3⟩, h2⟩
section
variable {R : Nat → Prop} {w W : World} {p bm n : Nat} {fr : Int} {s : Int → Ty}
theorem fullVar (h : SolvAt R W p bm n fr s) {k m : Int} {a : Option Addr} {c : Nat} (hk : (Lit.int .i64 k).wf = true) (hv : VC a c) (hs : s k = .var m) :
    Calls Tryd.prog 10 #[.pointer (some ⟨p, 0, none⟩), .agg #[.int .i64 0, .int .i64 k, .string ⟨#[]⟩, .slice a 0 c]] W fun e w' => ∃ a' c', e = .returned (.tuple #[.agg #[.int .i64 0, .int .i64 m, .string ⟨#[]⟩, .slice a' 0 c'], .int .i64 0]) ∧ VC a' c' ∧ Below W.heap.size W w' := by
  have e1 : (Ty.var k).sub s = .var m := by rw [Ty.sub, hs]
  refine (h.full_yes (.var k) _ (isVar hk hv) (by rw [e1, Ty.sz]; omega)).mono ?_
  rw [e1]
  rintro e w' ⟨ao, cap, rfl, ht, hb⟩
  exact ⟨ao, cap, rfl, (ofVar ht).1, hb⟩
theorem fromVar (W : World) {k : Int} {a : Option Addr} {c : Nat} (hk : (Lit.int .i64 k).wf = true) (hv : VC a c) :
    Calls Tryd.prog 22 #[.agg #[.int .i64 0, .int .i64 k, .string ⟨#[]⟩, .slice a 0 c]] W fun e w' => ∃ a' c', e = .returned (.agg #[.int .i64 0, .int .i64 k, .string ⟨#[]⟩, .slice a' 0 c']) ∧ VC a' c' ∧ Below W.heap.size W w' := by
  refine (from_walk 1 (.var k) _ W (fun _ => False) (by rw [Ty.sz]; omega) (by rw [Ty.sz]; omega) (isVar hk hv) (fun _ h => h.elim)).mono ?_
  rintro e w' ⟨ao, cap, rfl, ht, hb⟩
  exact ⟨ao, cap, rfl, (ofVar ht).1, hb⟩
theorem sameVar (W : World) {k : Int} {a a' : Option Addr} {c c' : Nat} (hk : (Lit.int .i64 k).wf = true) (hv : VC a c) (hv' : VC a' c') :
    Calls Tryd.prog 21 #[.agg #[.int .i64 0, .int .i64 k, .string ⟨#[]⟩, .slice a 0 c], .agg #[.int .i64 0, .int .i64 k, .string ⟨#[]⟩, .slice a' 0 c']] W fun e w' => e = .returned (.bool true) ∧ Below W.heap.size W w' := by
  have h := refSame_walk 1 (.var k) (.var k) _ _ W (fun _ => False) (by rw [Ty.sz]; omega) (isVar hk hv) (isVar hk hv') (fun _ h => h.elim)
  have e : (Ty.var k).same (.var k) = true := by simp [Ty.same]
  rw [e] at h
  exact h
end
end Go.Proofs.YthchkekegkhanaaDoor
/- What the solver of the law KindFresh knows: plain. -/
namespace Go.Proofs.YthchkekegkhanaaDoor
open Go.RowKit Go.Maps
set_option linter.unusedVariables false

/-- Behind i rounds. -/
def frs (i : Nat) : Int → Ty := fun k => if 1 ≤ k ∧ k ≤ i then (if k % 3 = 2 then .var (k - 1) else if k % 3 = 0 then .con nInt [] else .var k) else .var k
theorem frs_zero : frs 0 = Ty.var := by
  funext k
  unfold frs
  rw [if_neg (by omega)]
theorem frs_new (i : Nat) {k : Int} (hk : (i : Int) < k) : frs i k = .var k := by unfold frs; rw [if_neg (by omega)]
theorem frs_own (i : Nat) (h : i % 3 = 1) : frs i (i : Int) = .var (i : Int) := by
  unfold frs
  rw [if_pos (by omega), if_neg (by omega), if_neg (by omega)]
theorem frs_0 {i : Nat} (h : i % 3 = 0) : frs (i + 1) = frs i := by
  funext k
  by_cases e : k = (i : Int) + 1
  · subst e
    rw [frs_new i (by omega)]
    unfold frs
    rw [if_pos (by omega), if_neg (by omega), if_neg (by omega)]
  · unfold frs
    by_cases h1 : 1 ≤ k ∧ k ≤ i
    · rw [if_pos h1, if_pos (by omega)]
    · rw [if_neg h1, if_neg (by omega)]
theorem frs_ext {i : Nat} {y : Ty} (hy : (if ((i : Int) + 1) % 3 = 2 then .var ((i : Int) + 1 - 1) else if ((i : Int) + 1) % 3 = 0 then Ty.con nInt [] else .var ((i : Int) + 1)) = y) : ext (frs i) ((i : Int) + 1) y = frs (i + 1) := by
  funext k
  unfold ext
  by_cases e : k = (i : Int) + 1
  · subst e
    rw [frs_new i (by omega), Ty.sub]
    unfold Ty.one frs
    rw [if_pos rfl, if_pos (by omega), hy]
  · have h0 : frs (i + 1) k = frs i k := by
      unfold frs
      by_cases h1 : 1 ≤ k ∧ k ≤ i
      · rw [if_pos h1, if_pos (by omega)]
      · rw [if_neg h1, if_neg (by omega)]
    rw [h0]
    refine Ty.sub_one_of_not ?_
    unfold frs
    by_cases h1 : 1 ≤ k ∧ k ≤ i
    · rw [if_pos h1]
      by_cases h2 : k % 3 = 2
      · rw [if_pos h2, Ty.has]; simp; omega
      · rw [if_neg h2]
        by_cases h3 : k % 3 = 0
        · rw [if_pos h3, Ty.has, Ty.hass]
        · rw [if_neg h3, Ty.has]; simp; omega
    · rw [if_neg h1, Ty.has]; simp; omega
theorem uni_vars {s : Int → Ty} {a b : Int} (ha : s a = .var a) (hb : s b = .var b) (hab : a ≠ b) : uni s (.var a) (.var b) = (0, ext s a (.var b)) := by
  have h1 : ¬ b = a := fun e => hab e.symm
  simp [uni, pairF, pairT, bindF, Ty.sub, Ty.sz, Ty.has, ha, hb, hab, h1]
theorem uni_varInt {s : Int → Ty} {a : Int} (ha : s a = .var a) : uni s (.var a) (.con nInt []) = (0, ext s a (.con nInt [])) := by
  simp [uni, pairF, pairT, bindF, Ty.sub, Ty.subs, Ty.sz, Ty.szs, Ty.has, Ty.hass, ha]
theorem fresh_1 {i : Nat} (h : i % 3 = 1) : uni (frs i) (.var ((i : Int) + 1)) (.var (i : Int)) = (0, frs (i + 1)) := by
  rw [uni_vars (frs_new i (by omega)) (frs_own i h) (by omega), frs_ext (by rw [if_pos (by omega)]; congr 1; omega)]
theorem fresh_2 {i : Nat} (h : i % 3 = 2) : uni (frs i) (.var ((i : Int) + 1)) (.con nInt []) = (0, frs (i + 1)) := by
  rw [uni_varInt (frs_new i (by omega)), frs_ext (by rw [if_neg (by omega), if_pos (by omega)])]
theorem frs_1 {i : Nat} (h : i % 3 = 1) : frs (i + 1) (i : Int) = .var (i : Int) ∧ frs (i + 1) ((i : Int) + 1) = .var (i : Int) := by
  constructor
  · unfold frs
    rw [if_pos (by omega), if_neg (by omega), if_neg (by omega)]
  · unfold frs
    rw [if_pos (by omega), if_pos (by omega)]
    congr 1
    omega
end Go.Proofs.YthchkekegkhanaaDoor
/- The law KindFresh. -/
namespace Go.Proofs.YthchkekegkhanaaDoor
open Go.RowKit Go.Maps
set_option linter.unusedVariables false

/-- A solver, and boxes beside it. -/
structure OneAt (w W : World) (p bm n : Nat) (fr : Int) (s : Int → Ty) (L : List (Nat × Array Value)) : Prop where
  sv : SolvAt (fun _ => True) W p bm n fr s
  hb : Below w.heap.size w W
  lo : w.heap.size ≤ p ∧ w.heap.size ≤ bm
  bx : ∀ x ∈ L, W.heap[x.1]? = some (.cells x.2 25 (0, 0)) ∧ x.1 ≠ p ∧ x.1 ≠ bm
section
variable {w W W' : World} {p bm n n' : Nat} {fr fr' : Int} {s s' : Int → Ty} {L : List (Nat × Array Value)}
theorem OneAt.below (h : OneAt w W p bm n fr s L) (hb : Below W.heap.size W W') : OneAt w W' p bm n fr s L :=
  ⟨h.sv.chg hb, h.hb.trans (hb.mono h.hb.size), h.lo, fun x hx => ⟨(hb.block _ (lt_of_block (h.bx x hx).1)).trans (h.bx x hx).1, (h.bx x hx).2⟩⟩
theorem OneAt.step (h : OneAt w W p bm n fr s L) (hs : SolvAt (fun _ => True) W' p bm n' fr' s') (hc : Chg [p, bm] W W') : OneAt w W' p bm n' fr' s' L :=
  ⟨hs, h.hb.trans (hc.below h.hb.size (fun k hk => by have := h.lo; simp at hk; omega)), h.lo, fun x hx => ⟨(hc.block _ (lt_of_block (h.bx x hx).1) (by have := (h.bx x hx).2; simp [this.1, this.2])).trans (h.bx x hx).1, (h.bx x hx).2⟩⟩
theorem OneAt.box (h : OneAt w W p bm n fr s L) (cs : Array Value) : OneAt w (W.alloc (.cells cs 25)) p bm n fr s ((W.heap.size, cs) :: L) := by
  have hl := h.sv.lt
  have h' := h.below (W' := W.alloc (.cells cs 25)) ((Below.refl _ _).alloc (Nat.le_refl _) _)
  refine ⟨h'.sv, h'.hb, h'.lo, fun x hx => ?_⟩
  rcases List.mem_cons.1 hx with rfl | hx
  · exact ⟨heap_alloc_new W _, by show W.heap.size ≠ p; omega, by show W.heap.size ≠ bm; omega⟩
  · exact h'.bx x hx
theorem OneAt.less (h : OneAt w W p bm n fr s L) {L' : List (Nat × Array Value)} (hL : ∀ x ∈ L', x ∈ L) : OneAt w W p bm n fr s L' := ⟨h.sv, h.hb, h.lo, fun x hx => h.bx x (hL x hx)⟩
theorem OneAt.at4 (h : OneAt w W p bm n fr s L) {b : Nat} {a0 a1 a2 a3 : Value} (hm : (b, #[a0, a1, a2, a3]) ∈ L) : W.cell? ⟨b, 0, none⟩ = some a0 ∧ W.cell? ⟨b, 1, none⟩ = some a1 ∧ W.cell? ⟨b, 2, none⟩ = some a2 ∧ W.cell? ⟨b, 3, none⟩ = some a3 := by
  obtain ⟨c0, c1, c2, c3, _⟩ := hdr4_cells (h.bx _ hm).1
  exact ⟨c0, c1, c2, c3⟩
theorem OneAt.two {b b' : Nat} {a0 a1 a2 a3 c0 c1 c2 c3 : Value} (h : OneAt w W p bm n fr s ((b, #[a0, a1, a2, a3]) :: (b', #[c0, c1, c2, c3]) :: L)) :
    (W.cell? ⟨b', 0, none⟩ = some c0 ∧ W.cell? ⟨b', 1, none⟩ = some c1 ∧ W.cell? ⟨b', 2, none⟩ = some c2 ∧ W.cell? ⟨b', 3, none⟩ = some c3) ∧ (W.cell? ⟨b, 0, none⟩ = some a0 ∧ W.cell? ⟨b, 1, none⟩ = some a1 ∧ W.cell? ⟨b, 2, none⟩ = some a2 ∧ W.cell? ⟨b, 3, none⟩ = some a3) :=
  ⟨h.at4 (.tail _ (.head _)), h.at4 (.head _)⟩
end
theorem fresh_done {w W W' : World} {p bm n i : Nat} {L : List (Nat × Array Value)} (h : OneAt w W p bm n ((i : Int) + 1) (frs (i + 1)) L) (hn : n ≤ 10000 * (i + 1)) (hb : Below W.heap.size W W') : OneAt w W' p bm (10000 * (i + 1)) ((i + 1 : Nat) : Int) (frs (i + 1)) [] := by
  have h1 := (h.below hb).less (L' := []) (fun x hx => by cases hx)
  exact ⟨h1.sv.mono hn, h1.hb, h1.lo, h1.bx⟩
theorem fresh_uni {w W : World} {p bm i : Nat} {L : List (Nat × Array Value)} (h : OneAt w W p bm (10000 * i) ((i : Int) + 1) (frs i) L) (hi : i < 50) {t : Ty} {v : Value} (ht : TyIs W (fun b => False) t v) (hz : t.sz ≤ 10) (hw : (Lit.int .i64 ((i : Int) + 1)).wf = true) (hu : uni (frs i) (.var ((i : Int) + 1)) t = (0, frs (i + 1))) :
    Calls Tryd.prog 13 #[.pointer (some ⟨p, 0, none⟩), .agg #[.int .i64 0, .int .i64 ((i : Int) + 1), .string ⟨#[]⟩, .slice none 0 0], v] W fun e w' => e = .returned (.int .i64 0) ∧ OneAt w w' p bm (10000 * i + 10000) ((i : Int) + 1) (frs (i + 1)) L := by
  refine (unify_any h.sv (fun _ _ => trivial) (by omega) (.var ((i : Int) + 1)) t _ _ (isVar hw vc_nil) (ht.mono fun b hb => hb.elim) (by rw [Ty.sz]; omega) (by omega)).mono ?_
  rw [hu]
  rintro e w' ⟨rfl, h1, h2⟩
  exact ⟨rfl, h.step h1 h2⟩
def FreshLoop (w : World) (p bm N : Nat) (gk : Nat) (s4 : Value) (wr : World) : Prop :=
  ∃ i : Nat, s4 = .int .i64 i ∧ i + gk = N ∧ OneAt w wr p bm (10000 * i) i (frs i) []
theorem mod_facts (i m : Nat) (c : Int) (hi : (0 : Int) ≤ i) (b : Bool) (h : ((i % 3 : Nat) : Int) = m) (hb : decide ((m : Int) = c) = b) : (((i : Int) % 3 == c) = b) ∧ ((((i : Int).tmod 3) == c) = b) := by
  have e1 : (i : Int) % 3 = m := by omega
  have e2 : (i : Int).tmod 3 = m := by rw [Int.tmod_eq_emod_of_nonneg hi]; exact e1
  rw [e1, e2, ← hb]
  exact ⟨rfl, rfl⟩
theorem fresh_rem (a : Int) : ∃ n : Nat, IntKind.i64.wrap ((IntKind.u64.wrap a).tmod 50) = (n : Int) ∧ n < 50 := by
  have hw : 0 ≤ IntKind.u64.wrap a := by show 0 ≤ a % 18446744073709551616; omega
  have e : (IntKind.u64.wrap a).tmod 50 = IntKind.u64.wrap a % 50 := Int.tmod_eq_emod_of_nonneg hw
  have b0 := Int.emod_nonneg (IntKind.u64.wrap a) (show (50 : Int) ≠ 0 by omega)
  have b1 := Int.emod_lt_of_pos (IntKind.u64.wrap a) (show (0 : Int) < 50 by omega)
  rw [e]
  generalize IntKind.u64.wrap a % 50 = x at *
  exact ⟨x.toNat, by rw [IntKind.wrap_i64]; omega, by omega⟩
set_option maxRecDepth 100000 in
set_option maxHeartbeats 1600000 in
theorem kindFresh_walk (a0 : Int) (w : World) : Calls Tryd.prog 4 #[.int .i64 a0] w fun e w' => e = .returned (.bool true) ∧ Below w.heap.size w w' := by
  obtain ⟨N, hN, hN50⟩ := fresh_rem a0
  go_enter Tryd.func4, Tryd.ntmps4
  go_wp2_with (go_at_call 15; refine (newAt_any (R := fun _ => True) _).mono ?_; rintro e w1 ⟨rfl, hs1, hb1, hz1⟩; have S1 := Lib.hid hs1; have B1 := Lib.hid hb1; have Z1 := Lib.hid hz1; clear hs1 hb1 hz1)
  have hO1 : OneAt w w1 (w.heap.size + 1) w.heap.size 0 0 (frs 0) [] := ⟨by rw [frs_zero]; exact S1.out, B1.out, by omega, fun x hx => by cases hx⟩
  generalize hp : w.heap.size + 1 = p at hO1 ⊢
  generalize hbm : w.heap.size = bm at hO1
  have HBM := Lib.hid hbm
  have HP := Lib.hid hp
  have HL : Hid (FreshLoop w p bm N N (.int .i64 0) w1) := ⟨0, rfl, by omega, hO1⟩
  clear hO1 hp hbm S1 B1 Z1
  go_loopg [4, 5, 6, 7, 8, 9, 10, 11] N (fun gk s4 s5 s6 s7 s8 s9 s10 s11 wr => FreshLoop w p bm N gk s4 wr)
  case atStart => exact HL.out
  case round =>
    clear HL hN
    obtain ⟨i, rfl, hik, hO⟩ := hrel
    have O0 := Lib.hid hO
    clear hO
    have g0 : (0 : Int) ≤ (i : Int) := by omega
    by_cases hlt : i < N
    · have g1 : (i : Int) < (N : Int) := by omega
      have g2 : (i : Int) < 50 := by omega
      have hw1 : (Lit.int .i64 ((i : Int) + 1)).wf = true := Go.WalkArith.wf_i64 ⟨by omega, by omega⟩
      have HF := Lib.hid (fresh_any O0.out.sv (by omega) (by omega))
      have HU : Hid (∀ W', OneAt w W' p bm (10000 * i) ((i : Int) + 1) (frs i) [] → Calls Tryd.prog 10 #[.pointer (some ⟨p, 0, none⟩), .agg #[.int .i64 0, .int .i64 ((i : Int) + 1), .string ⟨#[]⟩, .slice none 0 0]] W' fun e w' => ∃ a' c', e = .returned (.tuple #[.agg #[.int .i64 0, .int .i64 ((i : Int) + 1), .string ⟨#[]⟩, .slice a' 0 c'], .int .i64 0]) ∧ VC a' c' ∧ Below W'.heap.size W' w') := fun W' h =>
        fullVar h.sv hw1 vc_nil (frs_new i (by omega))
      go_upto_region 8 with (first
        | (go_at_call 14; refine HF.out.mono ?_; clear HF; rintro e w2 ⟨rfl, hs2, hc2⟩; have O2 := Lib.hid (O0.out.step hs2 (hc2.mono (by simp))); clear hs2 hc2)
        | (go_at_call 10; refine (HU.out _ ((O2.out.box #[.int .i64 0, .int .i64 ((i : Int) + 1), .string ⟨#[]⟩, .slice none 0 0]).less (by simp))).mono ?_; rintro e w3 ⟨a3, p3, rfl, hv3, hb3⟩; have V3 := Lib.hid hv3; have O3 := Lib.hid ((O2.out.box #[.int .i64 0, .int .i64 ((i : Int) + 1), .string ⟨#[]⟩, .slice none 0 0]).below hb3); clear hv3 hb3))
      obtain ⟨W, hW⟩ : ∃ W, W = w3.alloc (.cells #[.int .i64 0, .int .i64 ((i : Int) + 1), .string ⟨#[]⟩, .slice a3 0 p3] 25) := ⟨_, rfl⟩
      have hO := O3.out.box #[.int .i64 0, .int .i64 ((i : Int) + 1), .string ⟨#[]⟩, .slice a3 0 p3]
      rw [← hW] at hO ⊢
      generalize w2.heap.size = b5 at hO ⊢
      generalize w3.heap.size = b6 at hO ⊢
      clear hW HU
      have HW1 := Lib.hid hw1
      clear hw1
      have O4 := Lib.hid hO
      obtain ⟨c0, c1, c2, c3⟩ := hO.at4 (b := b5) (.tail _ (.head _))
      obtain ⟨d0, d1, d2, d3⟩ := hO.at4 (b := b6) (.head _)
      clear hO
      have H1 := Lib.hid (fun W' => fromVar W' HW1.out V3.out)
      have hwr : IntKind.i64.wrap ((i : Int) + 1) = (i : Int) + 1 := IntWalk.i64_in _ (by omega)
      have hbe : ((i : Int) + 1 != (i : Int) + 1) = false := by simp
      have H2 := Lib.hid (fun W' => fromVar W' HW1.out vc_nil)
      go_region_held3 (fun w' => (w'.cell? ⟨b5, 0, none⟩ = some (.int .i64 0) ∧ w'.cell? ⟨b5, 1, none⟩ = some (.int .i64 ((i : Int) + 1)) ∧ w'.cell? ⟨b5, 2, none⟩ = some (.string ⟨#[]⟩) ∧ w'.cell? ⟨b5, 3, none⟩ = some (.slice none 0 0)) ∧
        (w'.cell? ⟨b6, 0, none⟩ = some (.int .i64 0) ∧ w'.cell? ⟨b6, 1, none⟩ = some (.int .i64 ((i : Int) + 1)) ∧ w'.cell? ⟨b6, 2, none⟩ = some (.string ⟨#[]⟩) ∧ w'.cell? ⟨b6, 3, none⟩ = some (.slice a3 0 p3)))
        (with_reducible (first | exact O7.out.two | exact O6.out.two | exact O5.out.two | exact O4.out.two | go_keep))
        (first
          | (go_at_call 22; with_reducible refine (H1.out _).mono ?_; clear H1; rintro e w5 ⟨a5, p5, rfl, hv5, hb5⟩; have V5 := Lib.hid hv5; have O5 := Lib.hid ((O4.out.below ((Below.refl _ _).drew)).below hb5); clear hv5 hb5)
          | (go_at_call 22; with_reducible refine (H2.out _).mono ?_; clear H2; rintro e w6 ⟨a6, p6, rfl, hv6, hb6⟩; have V6 := Lib.hid hv6; have O6 := Lib.hid (O5.out.below hb6); clear hv6 hb6)
          | (go_at_call 21; with_reducible refine (sameVar _ HW1.out V5.out V6.out).mono ?_; rintro e w7 ⟨rfl, hb7⟩; have O7 := Lib.hid (O6.out.below hb7); clear hb7))
      clear c0 c1 c2 c3 d0 d1 d2 d3 hwr hbe O4 O5 O6 V3 V5 V6
      have hwr : IntKind.i64.wrap ((i : Int) + 1) = (i : Int) + 1 := IntWalk.i64_in _ (by omega)
      obtain ⟨⟨c0, c1, c2, c3⟩, _⟩ := O7.out.two
      rcases (show i % 3 = 0 ∨ i % 3 = 1 ∨ i % 3 = 2 by omega) with h3 | h3 | h3
      · obtain ⟨m1, m2⟩ := mod_facts i 0 1 g0 false (by omega) rfl
        obtain ⟨m3, m4⟩ := mod_facts i 0 2 g0 false (by omega) rfl
        have H3 := Lib.hid h3
        clear h3
        go_wp2
        go_quiet (fail)
        go_wp2
        go_quiet (fail)
        go_wp2
        go_roundg (gk - 1)
        case measure => omega
        case rel => exact ⟨i + 1, by go_num, by omega, fresh_done (n := 10000 * i) (by rw [frs_0 H3.out]; exact O7.out) (by omega) (below_drewN (Below.refl _ _) _)⟩
      · obtain ⟨m1, m2⟩ := mod_facts i 1 1 g0 true (by omega) rfl
        obtain ⟨m3, m4⟩ := mod_facts i 1 2 g0 false (by omega) rfl
        have H3 := Lib.hid h3
        have hwi : (Lit.int .i64 (i : Int)).wf = true := Go.WalkArith.wf_i64 ⟨by omega, by omega⟩
        have HWI := Lib.hid hwi
        clear h3 hwi
        have HU : Hid (∀ W', OneAt w W' p bm (10000 * i) ((i : Int) + 1) (frs i) [(b6, #[.int .i64 0, .int .i64 ((i : Int) + 1), .string ⟨#[]⟩, .slice a3 0 p3]), (b5, #[.int .i64 0, .int .i64 ((i : Int) + 1), .string ⟨#[]⟩, .slice none 0 0])] →
          Calls Tryd.prog 13 #[.pointer (some ⟨p, 0, none⟩), .agg #[.int .i64 0, .int .i64 ((i : Int) + 1), .string ⟨#[]⟩, .slice none 0 0], .agg #[.int .i64 0, .int .i64 (i : Int), .string ⟨#[]⟩, .slice none 0 0]] W' fun e w' => e = .returned (.int .i64 0) ∧ OneAt w w' p bm (10000 * i + 10000) ((i : Int) + 1) (frs (i + 1)) [(b6, #[.int .i64 0, .int .i64 ((i : Int) + 1), .string ⟨#[]⟩, .slice a3 0 p3]), (b5, #[.int .i64 0, .int .i64 ((i : Int) + 1), .string ⟨#[]⟩, .slice none 0 0])]) :=
          fun W' h => fresh_uni h (by omega) (isVar HWI.out vc_nil) (by rw [Ty.sz]; omega) HW1.out (fresh_1 H3.out)
        go_upto_region 10 with fail
        go_region_held3 (fun w' => w'.cell? ⟨b5, 0, none⟩ = some (.int .i64 0) ∧ w'.cell? ⟨b5, 1, none⟩ = some (.int .i64 ((i : Int) + 1)) ∧ w'.cell? ⟨b5, 2, none⟩ = some (.string ⟨#[]⟩) ∧ w'.cell? ⟨b5, 3, none⟩ = some (.slice none 0 0))
          (with_reducible (first | exact O9.out.two.1 | exact O8.out.two.1 | exact O7.out.two.1 | go_keep))
          (first
            | (go_at_call 11; with_reducible refine (var_any _ _).mono ?_; rintro e w8 ⟨rfl, hb8⟩; have O8 := Lib.hid ((O7.out.below ((Below.refl _ _).drew)).below hb8); clear hb8)
            | (go_at_call 13; with_reducible refine (HU.out _ O8.out).mono ?_; clear HU; rintro e w9 ⟨rfl, ho9⟩; have O9 := Lib.hid ho9; clear ho9))
        clear c0 c1 c2 c3
        obtain ⟨⟨c0, c1, c2, c3⟩, _⟩ := O9.out.two
        have HX : Hid (∀ W', OneAt w W' p bm (10000 * i + 10000) ((i : Int) + 1) (frs (i + 1)) [] → Calls Tryd.prog 10 #[.pointer (some ⟨p, 0, none⟩), .agg #[.int .i64 0, .int .i64 (i : Int), .string ⟨#[]⟩, .slice none 0 0]] W' fun e w' => ∃ a' c', e = .returned (.tuple #[.agg #[.int .i64 0, .int .i64 (i : Int), .string ⟨#[]⟩, .slice a' 0 c'], .int .i64 0]) ∧ VC a' c' ∧ Below W'.heap.size W' w') := fun W' h =>
          fullVar h.sv HWI.out vc_nil (frs_1 H3.out).1
        have HY : Hid (∀ W', OneAt w W' p bm (10000 * i + 10000) ((i : Int) + 1) (frs (i + 1)) [] → Calls Tryd.prog 10 #[.pointer (some ⟨p, 0, none⟩), .agg #[.int .i64 0, .int .i64 ((i : Int) + 1), .string ⟨#[]⟩, .slice none 0 0]] W' fun e w' => ∃ a' c', e = .returned (.tuple #[.agg #[.int .i64 0, .int .i64 (i : Int), .string ⟨#[]⟩, .slice a' 0 c'], .int .i64 0]) ∧ VC a' c' ∧ Below W'.heap.size W' w') := fun W' h =>
          fullVar h.sv HW1.out vc_nil (frs_1 H3.out).2
        go_upto_region 15 with (first
          | (go_at_call 11; with_reducible refine (var_any _ _).mono ?_; rintro e w10 ⟨rfl, hb10⟩; have O10 := Lib.hid (O9.out.below hb10); clear hb10)
          | (go_at_call 10; with_reducible refine (HX.out _ (O10.out.less (by simp))).mono ?_; clear HX; rintro e w11 ⟨a11, p11, rfl, hv11, hb11⟩; have V11 := Lib.hid hv11; have O11 := Lib.hid (O10.out.below hb11); clear hv11 hb11; obtain ⟨k0, k1, k2, k3⟩ := (O11.out.box #[.int .i64 0, .int .i64 (i : Int), .string ⟨#[]⟩, .slice a11 0 p11]).at4 (b := b5) (List.Mem.tail _ (List.Mem.tail _ (List.Mem.head _))))
          | (go_at_call 10; with_reducible refine (HY.out _ ((O11.out.box _).less (by simp))).mono ?_; clear HY; rintro e w12 ⟨a12, p12, rfl, hv12, hb12⟩; have V12 := Lib.hid hv12; have O12 := Lib.hid ((O11.out.box #[.int .i64 0, .int .i64 (i : Int), .string ⟨#[]⟩, .slice a11 0 p11]).below hb12); clear hv12 hb12))
        obtain ⟨W2, hW2⟩ : ∃ W2, W2 = w12.alloc (.cells #[.int .i64 0, .int .i64 (i : Int), .string ⟨#[]⟩, .slice a12 0 p12] 25) := ⟨_, rfl⟩
        have hO := ((O12.out.box #[.int .i64 0, .int .i64 (i : Int), .string ⟨#[]⟩, .slice a12 0 p12]).less (L' := [(w12.heap.size, #[.int .i64 0, .int .i64 (i : Int), .string ⟨#[]⟩, .slice a12 0 p12]), (w11.heap.size, #[.int .i64 0, .int .i64 (i : Int), .string ⟨#[]⟩, .slice a11 0 p11])]) (by intro x hx; simp at hx ⊢; rcases hx with rfl | rfl <;> simp))
        rw [← hW2] at hO ⊢
        generalize w11.heap.size = b8 at hO ⊢
        generalize w12.heap.size = b10 at hO ⊢
        clear hW2 c0 c1 c2 c3 k0 k1 k2 k3
        have O13 := Lib.hid hO
        obtain ⟨⟨c0, c1, c2, c3⟩, ⟨d0, d1, d2, d3⟩⟩ := hO.two
        clear hO
        have H4 := Lib.hid (fun W' => fromVar W' HWI.out V11.out)
        have H5 := Lib.hid (fun W' => fromVar W' HWI.out V12.out)
        go_region_held3 (fun w' => (w'.cell? ⟨b8, 0, none⟩ = some (.int .i64 0) ∧ w'.cell? ⟨b8, 1, none⟩ = some (.int .i64 (i : Int)) ∧ w'.cell? ⟨b8, 2, none⟩ = some (.string ⟨#[]⟩) ∧ w'.cell? ⟨b8, 3, none⟩ = some (.slice a11 0 p11)) ∧
          (w'.cell? ⟨b10, 0, none⟩ = some (.int .i64 0) ∧ w'.cell? ⟨b10, 1, none⟩ = some (.int .i64 (i : Int)) ∧ w'.cell? ⟨b10, 2, none⟩ = some (.string ⟨#[]⟩) ∧ w'.cell? ⟨b10, 3, none⟩ = some (.slice a12 0 p12)))
          (with_reducible (first | exact O16.out.two | exact O15.out.two | exact O14.out.two | exact O13.out.two | go_keep))
          (first
            | (go_at_call 22; with_reducible refine (H4.out _).mono ?_; clear H4; rintro e w14 ⟨a14, p14, rfl, hv14, hb14⟩; have V14 := Lib.hid hv14; have O14 := Lib.hid ((O13.out.below ((Below.refl _ _).drew)).below hb14); clear hv14 hb14)
            | (go_at_call 22; with_reducible refine (H5.out _).mono ?_; clear H5; rintro e w15 ⟨a15, p15, rfl, hv15, hb15⟩; have V15 := Lib.hid hv15; have O15 := Lib.hid (O14.out.below hb15); clear hv15 hb15)
            | (go_at_call 21; with_reducible refine (sameVar _ HWI.out V14.out V15.out).mono ?_; rintro e w16 ⟨rfl, hb16⟩; have O16 := Lib.hid (O15.out.below hb16); clear hb16))
        clear c0 c1 c2 c3 d0 d1 d2 d3
        go_wp2
        go_quiet (fail)
        go_wp2
        go_roundg (gk - 1)
        case measure => omega
        case rel => exact ⟨i + 1, by go_num, by omega, fresh_done O16.out (by omega) (below_drewN (Below.refl _ _) _)⟩
      · obtain ⟨m1, m2⟩ := mod_facts i 2 1 g0 false (by omega) rfl
        obtain ⟨m3, m4⟩ := mod_facts i 2 2 g0 true (by omega) rfl
        have H3 := Lib.hid h3
        clear h3
        have HU : Hid (∀ W', OneAt w W' p bm (10000 * i) ((i : Int) + 1) (frs i) [(b6, #[.int .i64 0, .int .i64 ((i : Int) + 1), .string ⟨#[]⟩, .slice a3 0 p3]), (b5, #[.int .i64 0, .int .i64 ((i : Int) + 1), .string ⟨#[]⟩, .slice none 0 0])] →
          Calls Tryd.prog 13 #[.pointer (some ⟨p, 0, none⟩), .agg #[.int .i64 0, .int .i64 ((i : Int) + 1), .string ⟨#[]⟩, .slice none 0 0], .agg #[.int .i64 1, .int .i64 0, .string ⟨#[105, 110, 116]⟩, .slice none 0 0]] W' fun e w' => e = .returned (.int .i64 0) ∧ OneAt w w' p bm (10000 * i + 10000) ((i : Int) + 1) (frs (i + 1)) [(b6, #[.int .i64 0, .int .i64 ((i : Int) + 1), .string ⟨#[]⟩, .slice a3 0 p3]), (b5, #[.int .i64 0, .int .i64 ((i : Int) + 1), .string ⟨#[]⟩, .slice none 0 0])]) :=
          fun W' h => fresh_uni h (by omega) (TyIs.mk_con (c := nInt) (l := []) (Nat.le_refl _) (Nat.zero_le _) (by decide) (fun _ => rfl) TysAt.nil) (by decide) HW1.out (fresh_2 H3.out)
        go_upto_region 10 with fail
        go_quiet (fail)
        go_upto_region 17 with fail
        have OD := Lib.hid (O7.out.below (below_drewN (Below.refl _ _) nq))
        generalize w7.drewN nq = w8 at OD ⊢
        clear c0 c1 c2 c3
        obtain ⟨⟨c0, c1, c2, c3⟩, _⟩ := OD.out.two
        go_region_held3 (fun w' => w'.cell? ⟨b5, 0, none⟩ = some (.int .i64 0) ∧ w'.cell? ⟨b5, 1, none⟩ = some (.int .i64 ((i : Int) + 1)) ∧ w'.cell? ⟨b5, 2, none⟩ = some (.string ⟨#[]⟩) ∧ w'.cell? ⟨b5, 3, none⟩ = some (.slice none 0 0))
          (with_reducible (first | exact O10.out.two.1 | exact O9.out.two.1 | exact OD.out.two.1 | go_keep))
          (first
            | (go_at_call 23; with_reducible refine (con_nil _ _).mono ?_; rintro e w9 ⟨rfl, hb9⟩; have O9 := Lib.hid ((OD.out.below ((Below.refl _ _).drew)).below hb9); clear hb9)
            | (go_at_call 13; with_reducible refine (HU.out _ O9.out).mono ?_; clear HU; rintro e w10 ⟨rfl, ho10⟩; have O10 := Lib.hid ho10; clear ho10))
        clear c0 c1 c2 c3
        go_wp2
        go_roundg (gk - 1)
        case measure => omega
        case rel => exact ⟨i + 1, by go_num, by omega, fresh_done O10.out (by omega) (Below.refl _ _)⟩
    · go_wp2_with (go_at_call 12; refine (kinds_any _).mono ?_; rintro e w9 ⟨rfl, hb9⟩; have B9 := Lib.hid hb9; clear hb9)
      go_ret
      exact ⟨rfl, O0.out.hb.trans (B9.out.mono O0.out.hb.size)⟩
end Go.Proofs.YthchkekegkhanaaDoor
