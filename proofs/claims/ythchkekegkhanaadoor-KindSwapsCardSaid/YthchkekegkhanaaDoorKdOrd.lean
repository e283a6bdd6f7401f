/- The law KindOrders. -/
import Derived.Test.YthchkekegkhanaaDoorKdRen
import Derived.Laws.Cover1
namespace Go.Proofs.YthchkekegkhanaaDoor
open Go.RowKit Go.Maps
set_option linter.unusedVariables false

theorem oa {a w : World} (h : Below a.heap.size a w) (o : Obj) : Below a.heap.size a (w.alloc o) := h.alloc h.size o
theorem od {a w : World} (h : Below a.heap.size a w) : Below a.heap.size a w.drew := h.drew
theorem ot {a w w' : World} (h : Below a.heap.size a w) (h' : Below w.heap.size w w') : Below a.heap.size a w' := h.trans (h'.mono h.size)
/-- Two of the program's solvers. -/
structure PairAt (w W : World) (p bm : Nat) (σ : Int → Ty) (p2 bm2 : Nat) (τ : Int → Ty) (n : Nat) : Prop where
  s1 : SolvAt (fun _ => True) W p bm n 0 σ
  s2 : SolvAt (fun _ => True) W p2 bm2 n 0 τ
  hb : Below w.heap.size w W
  lo : w.heap.size ≤ p ∧ w.heap.size ≤ bm ∧ w.heap.size ≤ p2 ∧ w.heap.size ≤ bm2
  ap : p2 ≠ p ∧ p2 ≠ bm ∧ bm2 ≠ p ∧ bm2 ≠ bm
section
variable {w W W' : World} {p bm p2 bm2 n n' : Nat} {σ τ σ' : Int → Ty}
theorem PairAt.below (h : PairAt w W p bm σ p2 bm2 τ n) (hb : Below W.heap.size W W') : PairAt w W' p bm σ p2 bm2 τ n := ⟨h.s1.chg hb, h.s2.chg hb, h.hb.trans (hb.mono h.hb.size), h.lo, h.ap⟩
theorem PairAt.swap (h : PairAt w W p bm σ p2 bm2 τ n) : PairAt w W p2 bm2 τ p bm σ n := ⟨h.s2, h.s1, h.hb, ⟨h.lo.2.2.1, h.lo.2.2.2, h.lo.1, h.lo.2.1⟩, ⟨h.ap.1.symm, h.ap.2.2.1.symm, h.ap.2.1.symm, h.ap.2.2.2.symm⟩⟩
theorem PairAt.mono (h : PairAt w W p bm σ p2 bm2 τ n) (hn : n ≤ n') : PairAt w W p bm σ p2 bm2 τ n' := ⟨h.s1.mono hn, h.s2.mono hn, h.hb, h.lo, h.ap⟩
theorem PairAt.step (h : PairAt w W p bm σ p2 bm2 τ n) (hs : SolvAt (fun _ => True) W' p bm n' 0 σ') (hn : n ≤ n') (hc : Chg [p, bm] W W') : PairAt w W' p bm σ' p2 bm2 τ n' := by
  obtain ⟨a1, a2, a3, a4⟩ := h.ap
  exact ⟨hs, (h.s2.aside hc h.s1.few (by simp [a1, a2]) (by simp [a3, a4])).mono hn, h.hb.trans (hc.below h.hb.size (fun k hk => by have := h.lo; simp at hk; omega)), h.lo, h.ap⟩
theorem pairUnify (h : PairAt w W p bm σ p2 bm2 τ n) (hn : n < 100000000) {a b : Ty} {va vb : Value} {P : Nat → Prop} (ha : TyIs W P a va) (hb : TyIs W P b vb) (hP : ∀ x, P x → x < W.heap.size ∧ x ≠ p ∧ x ≠ bm) (hsa : a.sz ≤ 100000) (hsb : b.sz ≤ 100000) :
    Calls Tryd.prog 13 #[.pointer (some ⟨p, 0, none⟩), va, vb] W fun e w' => e = .returned (.int .i64 (uni σ a b).1) ∧ PairAt w w' p bm (uni σ a b).2 p2 bm2 τ (n + 10000) := by
  refine (unify_any h.s1 (fun _ _ => trivial) hn a b va vb (ha.mono fun b hb => ⟨(hP b hb).1, (hP b hb).2.1, (hP b hb).2.2, trivial⟩) (hb.mono fun b hb => ⟨(hP b hb).1, (hP b hb).2.1, (hP b hb).2.2, trivial⟩) hsa hsb).mono ?_
  rintro e w' ⟨rfl, h1, h2⟩
  exact ⟨rfl, h.step h1 (by omega) h2⟩
end
/-- The i-th pair; the first i of them, and from the end. -/
def eqAt (la lb : List VT) (j : Nat) : Ty × Ty := (tm (la.getD j (.node 0 0 ⟨#[]⟩ [])), tm (lb.getD j (.node 0 0 ⟨#[]⟩ [])))
def eqs (la lb : List VT) (i : Nat) : List (Ty × Ty) := (List.range i).map (eqAt la lb)
def eqsB (la lb : List VT) (N i : Nat) : List (Ty × Ty) := (List.range i).map fun j => ((eqAt la lb (N - 1 - j)).2, (eqAt la lb (N - 1 - j)).1)
theorem eqs_succ (la lb : List VT) (i : Nat) : eqs la lb (i + 1) = eqs la lb i ++ [eqAt la lb i] := by unfold eqs; rw [List.range_succ, List.map_append]; rfl
theorem eqsB_succ (la lb : List VT) (N i : Nat) : eqsB la lb N (i + 1) = eqsB la lb N i ++ [((eqAt la lb (N - 1 - i)).2, (eqAt la lb (N - 1 - i)).1)] := by unfold eqsB; rw [List.range_succ, List.map_append]; rfl
theorem eqs_same {la lb : List VT} {N : Nat} {σ τ : Int → Ty} (h : MG σ (eqs la lb N)) (h' : MG τ (eqsB la lb N N)) : Grows σ τ ∧ Grows τ σ := by
  refine h.same h' (fun x hx => ?_) (fun x hx => ?_)
  · unfold eqs at hx
    obtain ⟨j, hj, rfl⟩ := List.mem_map.1 hx
    rw [List.mem_range] at hj
    unfold eqsB
    refine List.mem_map.2 ⟨N - 1 - j, List.mem_range.2 (by omega), ?_⟩
    rw [show N - 1 - (N - 1 - j) = j by omega]
  · unfold eqsB at hx
    obtain ⟨j, hj, rfl⟩ := List.mem_map.1 hx
    rw [List.mem_range] at hj
    unfold eqs
    exact List.mem_map.2 ⟨N - 1 - j, List.mem_range.2 (by omega), rfl⟩
theorem cutT_size (s : ByteArray) : (cutT s).size ≤ 100 := by
  unfold cutT
  rw [ByteArray.size_extract]
  omega
mutual
theorem tameT_nice : ∀ (t : VT) (d left : Int), (t.tameT d left).1.nice
  | .node k n s l, d, left => by
    rw [VT.tameT]
    split
    · exact Ty.nice_var.2 (tnum_bd n)
    · exact Ty.nice_con.2 ⟨cutT_size s, tamesT_nice l d (left - 1)⟩
theorem tamesT_nice : ∀ (l : List VT) (d left : Int), ∀ t ∈ (VT.tamesT l d left).1, t.nice
  | [], d, left => by rw [VT.tamesT]; intro t ht; cases ht
  | u :: ts, d, left => by
    rw [VT.tamesT]
    split
    · intro t ht
      rcases List.mem_cons.1 ht with rfl | ht
      · exact tameT_nice u (d - 1) left
      · exact tamesT_nice ts d _ t ht
    · intro t ht; cases ht
end
theorem tm_nice (t : VT) : (tm t).nice := tameT_nice t 12 60
def OrdLoop (w : World) (la lb : List VT) (N p bm p2 bm2 : Nat) (gk : Nat) (s8 s9 s10 : Value) (wr : World) : Prop :=
  ∃ (i : Nat) (ok back : Bool) (σ τ : Int → Ty), s8 = .bool ok ∧ s9 = .bool back ∧ s10 = .int .i64 i ∧ i + gk = N ∧ PairAt w wr p bm σ p2 bm2 τ (20000 * i) ∧ NiceS σ ∧ NiceS τ ∧ (ok = true → MG σ (eqs la lb i)) ∧ (back = true → MG τ (eqsB la lb N i))
/-- One of the two has been handed its pair. -/
def OrdMid (w : World) (E : List (Ty × Ty)) (n p bm p2 bm2 : Nat) (τ : Int → Ty) (s8 : Value) (wr : World) : Prop :=
  ∃ (ok : Bool) (σ : Int → Ty), s8 = .bool ok ∧ PairAt w wr p bm σ p2 bm2 τ n ∧ NiceS σ ∧ (ok = true → MG σ E)
theorem shownR_zero {s : Int → Ty} (h : (shownR s).2 = 0) : (shownR s).1 = (allT s).text' := by
  unfold shownR at h ⊢
  split
  · rfl
  · rename_i hn
    rw [if_neg hn] at h
    cases h
theorem keep8 {a w : World} {b o b' o' : Nat} {x0 x1 x2 x3 y0 y1 y2 y3 : Value} (h : Below a.heap.size a w)
    (hs : (b < a.heap.size ∧ b' < a.heap.size) ∧ (a.cell? ⟨b, o, none⟩ = some x0 ∧ a.cell? ⟨b, o + 1, none⟩ = some x1 ∧ a.cell? ⟨b, o + 2, none⟩ = some x2 ∧ a.cell? ⟨b, o + 3, none⟩ = some x3) ∧ (a.cell? ⟨b', o', none⟩ = some y0 ∧ a.cell? ⟨b', o' + 1, none⟩ = some y1 ∧ a.cell? ⟨b', o' + 2, none⟩ = some y2 ∧ a.cell? ⟨b', o' + 3, none⟩ = some y3)) :
    (w.cell? ⟨b, o, none⟩ = some x0 ∧ w.cell? ⟨b, o + 1, none⟩ = some x1 ∧ w.cell? ⟨b, o + 2, none⟩ = some x2 ∧ w.cell? ⟨b, o + 3, none⟩ = some x3) ∧ (w.cell? ⟨b', o', none⟩ = some y0 ∧ w.cell? ⟨b', o' + 1, none⟩ = some y1 ∧ w.cell? ⟨b', o' + 2, none⟩ = some y2 ∧ w.cell? ⟨b', o' + 3, none⟩ = some y3) := by
  obtain ⟨⟨h1, h2⟩, ⟨p0, p1, p2, p3⟩, ⟨q0, q1, q2, q3⟩⟩ := hs
  exact ⟨⟨(h.cell (p := ⟨b, o, none⟩) h1).trans p0, (h.cell (p := ⟨b, o + 1, none⟩) h1).trans p1, (h.cell (p := ⟨b, o + 2, none⟩) h1).trans p2, (h.cell (p := ⟨b, o + 3, none⟩) h1).trans p3⟩,
    ⟨(h.cell (p := ⟨b', o', none⟩) h2).trans q0, (h.cell (p := ⟨b', o' + 1, none⟩) h2).trans q1, (h.cell (p := ⟨b', o' + 2, none⟩) h2).trans q2, (h.cell (p := ⟨b', o' + 3, none⟩) h2).trans q3⟩⟩
/-- The i-th of what came in. -/
theorem in_cells {w wr : World} {l : List VT} {ao : Option Addr} (hk : KidsAt w (fun b => b < w.heap.size) l ao 0) (hb : Below w.heap.size w wr) {i : Nat} (hi : i < l.length) :
    ∃ t b o x0 x1 x2 x3, l.getD i (.node 0 0 ⟨#[]⟩ []) = t ∧ ao = some ⟨b, o, none⟩ ∧ b < w.heap.size ∧ (w.cell? ⟨b, o + i * 4, none⟩ = some x0 ∧ w.cell? ⟨b, o + i * 4 + 1, none⟩ = some x1 ∧ w.cell? ⟨b, o + i * 4 + 2, none⟩ = some x2 ∧ w.cell? ⟨b, o + i * 4 + 3, none⟩ = some x3) ∧ (wr.cell? ⟨b, o + i * 4, none⟩ = some x0 ∧ wr.cell? ⟨b, o + i * 4 + 1, none⟩ = some x1 ∧ wr.cell? ⟨b, o + i * 4 + 2, none⟩ = some x2 ∧ wr.cell? ⟨b, o + i * 4 + 3, none⟩ = some x3) ∧
      ∀ W, Below wr.heap.size wr W → Calls Tryd.prog 16 #[.agg #[x0, x1, x2, x3]] W (NewTy W (tm t)) := by
  obtain ⟨t, ht⟩ : ∃ u, l[i]? = some u := ⟨_, List.getElem?_eq_getElem hi⟩
  obtain ⟨b, o, x0, x1, x2, x3, rfl, hP, p0, p1, p2, p3, hv⟩ := hk.get ht
  rw [Nat.zero_add] at p0 p1 p2 p3
  refine ⟨t, b, o, x0, x1, x2, x3, by rw [List.getD_eq_getElem?_getD, ht]; rfl, rfl, hP, ⟨p0, p1, p2, p3⟩, ⟨(hb.cell (p := ⟨b, o + i * 4, none⟩) hP).trans p0, (hb.cell (p := ⟨b, o + i * 4 + 1, none⟩) hP).trans p1, (hb.cell (p := ⟨b, o + i * 4 + 2, none⟩) hP).trans p2, (hb.cell (p := ⟨b, o + i * 4 + 3, none⟩) hP).trans p3⟩, fun W hW => ?_⟩
  exact tame_any (hv.below (ot hb hW) (fun b hb => hb)) (fun b hb' => Nat.lt_of_lt_of_le hb' (ot hb hW).size)
theorem ord_up {w5 w7 : World} {N : Nat} {t : Ty} {v : Value} (h : TyIs w5 (fun b => N ≤ b ∧ b < w5.heap.size) t v) (hb : Below w5.heap.size w5 w7) : TyIs w7 (fun b => N ≤ b ∧ b < w7.heap.size) t v :=
  (h.below hb (fun b hb => hb.2)).mono fun b hb' => ⟨hb'.1, Nat.lt_of_lt_of_le hb'.2 hb.size⟩
/-- 'to' of a type that is new. -/
theorem to_new {W : World} {t : Ty} {v : Value} {P : Nat → Prop} (ht : TyIs W P t v) (hP : ∀ b, P b → b < W.heap.size) (hz : t.sz ≤ 60) : Calls Tryd.prog 17 #[v] W (NewTy W t) := to_walk t.sz t v W P (Nat.le_refl _) (by omega) ht hP
theorem min_three (x y : Nat) : ∃ N : Nat, N ≤ x ∧ N ≤ y ∧ N ≤ 6 ∧ ∀ W : World, (Builtin.min_ #[3, 3, 3] 3 #[.int .i64 (x : Int), .int .i64 (y : Int), .int .i64 6]).run Tryd.prog W = .ok (.int .i64 (N : Int)) W := by
  refine ⟨min (min x y) 6, by omega, by omega, by omega, fun W => ?_⟩
  rw [run_min_int3]
  congr 2
  split <;> split <;> omega
set_option maxRecDepth 100000 in
set_option maxHeartbeats 3200000 in
theorem kindOrders_walk (la lb : List VT) (aoa aob : Option Addr) (capa capb : Nat) (w : World) (ha1 : la.length ≤ capa ∧ capa ≤ maxLen) (hb1 : lb.length ≤ capb ∧ capb ≤ maxLen) (hka : KidsAt w (fun b => b < w.heap.size) la aoa 0) (hkb : KidsAt w (fun b => b < w.heap.size) lb aob 0) :
    Calls Tryd.prog 6 #[.slice aoa la.length capa, .slice aob lb.length capb] w fun e w' => e = .returned (.bool true) ∧ Below w.heap.size w w' := by
  have HKA := Lib.hid hka
  have HKB := Lib.hid hkb
  unfold maxLen at ha1 hb1
  clear hka hkb
  obtain ⟨N, hN1, hN2, hN3, hmin⟩ := min_three la.length lb.length
  go_enter Tryd.func6, Tryd.ntmps6
  go_wp2_with (first
    | (go_at_call 15; (with_reducible refine (newAt_any (R := fun _ => True) w).mono ?_); rintro e w1 ⟨rfl, hs1, hb1, hz1⟩; have S1 := Lib.hid hs1; have B1 := Lib.hid hb1; have Z1 := Lib.hid hz1; clear hs1 hb1 hz1)
    | (go_at_call 15; (with_reducible refine (newAt_any (R := fun _ => True) w1).mono ?_); rintro e w2 ⟨rfl, hs2, hb2, hz2⟩; have S2 := Lib.hid hs2; have B2 := Lib.hid hb2; have Z2 := Lib.hid hz2; clear hs2 hb2 hz2))
  have hp0 : PairAt w w2 (w.heap.size + 1) w.heap.size Ty.var (w1.heap.size + 1) w1.heap.size Ty.var (20000 * 0) := by
    have h1 := Z1.out
    exact ⟨S1.out.chg B2.out, S2.out, B1.out.trans (B2.out.mono B1.out.size), by omega, by omega⟩
  generalize w.heap.size + 1 = p at hp0 ⊢
  generalize w.heap.size = bm at hp0
  generalize w1.heap.size + 1 = p2 at hp0 ⊢
  generalize w1.heap.size = bm2 at hp0
  have HL : Hid (OrdLoop w la lb N p bm p2 bm2 N (.bool true) (.bool true) (.int .i64 0) w2) := ⟨0, true, true, Ty.var, Ty.var, rfl, rfl, rfl, by omega, hp0, NiceS.var, NiceS.var, fun _ => MG.nil, fun _ => MG.nil⟩
  clear hp0 S1 B1 Z1 S2 B2 Z2 hmin
  go_loopg [8, 9, 10] N (fun gk s8 s9 s10 wr => OrdLoop w la lb N p bm p2 bm2 gk s8 s9 s10 wr)
  case atStart => exact HL.out
  case round =>
    clear HL
    obtain ⟨i, ok, back, σ, τ, rfl, rfl, rfl, hik, hp, hn1, hn2, hm1, hm2⟩ := hrel
    have HP := Lib.hid hp
    have HN1 := Lib.hid hn1
    have HN2 := Lib.hid hn2
    have HM1 := Lib.hid hm1
    have HM2 := Lib.hid hm2
    clear hp hn1 hn2 hm1 hm2
    have g0 : (0 : Int) ≤ (i : Int) := by omega
    by_cases hlt : i < N
    · have g1 : (i : Int) < (N : Int) := by omega
      go_upto_region 7 with fail
      go_cut [8] (fun s8 wx => OrdMid w (eqs la lb (i + 1)) (20000 * i + 10000) p bm p2 bm2 τ s8 wx)
      case first =>
        cases ok with
        | false =>
          go_quiet (fail)
          go_wp2
          go_meet
          exact ⟨false, σ, rfl, (HP.out.below (below_drewN (Below.refl _ _) _)).mono (by omega), HN1.out, fun e => by cases e⟩
        | true =>
          obtain ⟨ta, ba, oa', x0, x1, x2, x3, hta, rfl, hpa, hpw, hpc, hca⟩ := in_cells HKA.out HP.out.hb (show i < la.length by omega)
          obtain ⟨tb, bb, ob', y0, y1, y2, y3, htb, rfl, hqa, hqw, hqc, hcb⟩ := in_cells HKB.out HP.out.hb (show i < lb.length by omega)
          have HS8 := Lib.hid (And.intro (And.intro hpa hqa) (And.intro hpw hqw))
          have HKP := Lib.hid (fun (W : World) (hW : Below w.heap.size w W) => keep8 hW HS8.out)
          have HA := Lib.hid hca
          have HB := Lib.hid hcb
          have HTA := Lib.hid hta
          have HTB := Lib.hid htb
          have HTO : Hid (∀ (W : World) (t : Ty) (v : Value), TyIs W (fun b => b < W.heap.size) t v → t.sz ≤ 60 → Calls Tryd.prog 17 #[v] W (NewTy W t)) := fun W t v h hz => to_new h (fun b hb => hb) hz
          have HUN : Hid (∀ W, Below wr.heap.size wr W → ∀ va vb, TyIs W (fun b => wr.heap.size ≤ b ∧ b < W.heap.size) (tm ta) va → TyIs W (fun b => wr.heap.size ≤ b ∧ b < W.heap.size) (tm tb) vb → Calls Tryd.prog 13 #[.pointer (some ⟨p, 0, none⟩), va, vb] W fun e w' => e = .returned (.int .i64 (uni σ (tm ta) (tm tb)).1) ∧ PairAt w w' p bm (uni σ (tm ta) (tm tb)).2 p2 bm2 τ (20000 * i + 10000)) := fun W hW va vb h1 h2 =>
            pairUnify (HP.out.below hW) (by omega) h1 h2 (fun x hx => by have := HP.out.s1.lt; omega) (Nat.le_trans (tm_sz _) (by omega)) (Nat.le_trans (tm_sz _) (by omega))
          obtain ⟨p0, p1, p2', p3⟩ := hpc
          obtain ⟨q0, q1, q2, q3⟩ := hqc
          clear hca hcb hta htb hpw hqw
          have g2 : (i : Int) < (la.length : Int) := by omega
          have g3 : (i : Int) < (lb.length : Int) := by omega
          unfold NewTy tval at HA HB HTO
          obtain ⟨tx, htx⟩ : ∃ tx, tx = tm ta := ⟨_, rfl⟩
          obtain ⟨ty, hty⟩ : ∃ ty, ty = tm tb := ⟨_, rfl⟩
          have HX := Lib.hid htx
          have HY := Lib.hid hty
          have HZX : Hid (tx.sz ≤ 60) := by rw [htx]; exact tm_sz _
          have HZY : Hid (ty.sz ≤ 60) := by rw [hty]; exact tm_sz _
          rw [← htx] at HA HUN
          rw [← hty] at HB HUN
          clear htx hty
          go_region_held3 (fun w' => (w'.cell? ⟨ba, oa' + i * 4, none⟩ = some x0 ∧ w'.cell? ⟨ba, oa' + i * 4 + 1, none⟩ = some x1 ∧ w'.cell? ⟨ba, oa' + i * 4 + 2, none⟩ = some x2 ∧ w'.cell? ⟨ba, oa' + i * 4 + 3, none⟩ = some x3) ∧ (w'.cell? ⟨bb, ob' + i * 4, none⟩ = some y0 ∧ w'.cell? ⟨bb, ob' + i * 4 + 1, none⟩ = some y1 ∧ w'.cell? ⟨bb, ob' + i * 4 + 2, none⟩ = some y2 ∧ w'.cell? ⟨bb, ob' + i * 4 + 3, none⟩ = some y3))
            (with_reducible (first | exact HKP.out _ P9.out.hb | exact HKP.out _ (ot HP.out.hb B8.out) | exact HKP.out _ (ot HP.out.hb B7.out) | exact HKP.out _ (ot HP.out.hb B6.out) | exact HKP.out _ (ot HP.out.hb B5.out) | exact HKP.out _ HP.out.hb.drew | go_keep))
            (first
              | (go_at_call 16; (with_reducible refine (HA.out _ ?_).mono ?_); · (repeat (first | exact B9.out | exact B8.out | exact B7.out | exact B6.out | exact B5.out | exact Below.refl _ _ | apply oa | apply od))
                 rintro e w5 ⟨a5, c5, rfl, ht5, hb5⟩; have B5 : Hid (Below wr.heap.size wr w5) := (ot (by (repeat (first | exact B9.out | exact B8.out | exact B7.out | exact B6.out | exact B5.out | exact Below.refl _ _ | apply oa | apply od))) hb5 : Below wr.heap.size wr w5); have T5 := Lib.hid (ht5.mono fun b hb => hb.2); clear ht5 hb5 HA)
              | (go_at_call 17; (with_reducible refine (HTO.out _ _ _ T5.out HZX.out).mono ?_); rintro e w6 ⟨a6, c6, rfl, ht6, hb6⟩; have B6 : Hid (Below wr.heap.size wr w6) := ot B5.out hb6; have T6 := Lib.hid (ht6.mono fun b hb => And.intro (Nat.le_trans B5.out.size hb.1) hb.2); clear ht6 hb6 T5)
              | (go_at_call 16; (with_reducible refine (HB.out _ B6.out).mono ?_); rintro e w7 ⟨a7, c7, rfl, ht7, hb7⟩; have B7 : Hid (Below wr.heap.size wr w7) := ot B6.out hb7; have T7 := Lib.hid (ht7.mono fun b hb => hb.2); have C7 := Lib.hid hb7; clear ht7 hb7 HB)
              | (go_at_call 17; (with_reducible refine (HTO.out _ _ _ T7.out HZY.out).mono ?_); rintro e w8 ⟨a8, c8, rfl, ht8, hb8⟩; have B8 : Hid (Below wr.heap.size wr w8) := ot B7.out hb8; have T8 := Lib.hid (ht8.mono fun b hb => And.intro (Nat.le_trans B7.out.size hb.1) hb.2); have C8 := Lib.hid (C7.out.trans (hb8.mono C7.out.size)); clear ht8 hb8 T7)
              | (go_at_call 13; (with_reducible refine (HUN.out _ B8.out _ _ (ord_up T6.out C8.out) T8.out).mono ?_); rintro e w9 ⟨rfl, hp9⟩; have P9 := Lib.hid hp9; clear hp9))
          all_goals go_wp2
          all_goals go_meet
          all_goals
            refine ⟨(uni σ tx ty).1 == 0, (uni σ tx ty).2, rfl, P9.out, HN1.out.uni (by rw [HX.out]; exact tm_nice _) (by rw [HY.out]; exact tm_nice _), fun e => ?_⟩
            rw [eqs_succ, show eqAt la lb i = (tx, ty) by unfold eqAt; rw [HTA.out, HTB.out, HX.out, HY.out]]
            exact (HM1.out trivial).step (by simpa using e)
      case rest =>
        obtain ⟨ok', σ', rfl, hp', hn', hm'⟩ := hcut
        rename World => wx
        have HP2 := Lib.hid hp'
        have HN3 := Lib.hid hn'
        have HM3 := Lib.hid hm'
        clear hp' hn' hm' HP HN1 HM1
        cases back with
        | false =>
          go_wp2
          go_quiet (fail)
          go_wp2
          go_roundg (gk - 1)
          case measure => omega
          case rel => exact ⟨i + 1, ok', false, σ', τ, rfl, rfl, by go_num, by omega, (HP2.out.below (below_drewN (Below.refl _ _) _)).mono (by omega), HN3.out, HN2.out, HM3.out, fun e => by cases e⟩
        | true =>
          obtain ⟨k, hk⟩ : ∃ k, k = N - 1 - i := ⟨_, rfl⟩
          have HK := Lib.hid hk
          have hkN : k < N := by omega
          have hk1 : IntKind.i64.wrap ((N : Int) - 1) = (N : Int) - 1 := IntWalk.i64_in _ (by omega)
          have hk3 : (N : Int) - 1 - (i : Int) = (k : Int) := by omega
          have hk2 : IntKind.i64.wrap ((N : Int) - 1 - (i : Int)) = (k : Int) := by rw [hk3]; exact IntWalk.i64_in _ (by omega)
          have hk4 : IntKind.i64.wrap (k : Int) = (k : Int) := IntWalk.i64_in _ (by omega)
          have hk0 : (0 : Int) ≤ (k : Int) := by omega
          clear hk
          obtain ⟨ta, ba, oa', x0, x1, x2, x3, hta, rfl, hpa, hpw, hpc, hca⟩ := in_cells HKB.out HP2.out.hb (show k < lb.length by omega)
          obtain ⟨tb, bb, ob', y0, y1, y2, y3, htb, rfl, hqa, hqw, hqc, hcb⟩ := in_cells HKA.out HP2.out.hb (show k < la.length by omega)
          have HS8 := Lib.hid (And.intro (And.intro hpa hqa) (And.intro hpw hqw))
          have HKP := Lib.hid (fun (W : World) (hW : Below w.heap.size w W) => keep8 hW HS8.out)
          have HA := Lib.hid hca
          have HB := Lib.hid hcb
          have HTA := Lib.hid hta
          have HTB := Lib.hid htb
          have HTO : Hid (∀ (W : World) (t : Ty) (v : Value), TyIs W (fun b => b < W.heap.size) t v → t.sz ≤ 60 → Calls Tryd.prog 17 #[v] W (NewTy W t)) := fun W t v h hz => to_new h (fun b hb => hb) hz
          have HUN : Hid (∀ W, Below wx.heap.size wx W → ∀ va vb, TyIs W (fun b => wx.heap.size ≤ b ∧ b < W.heap.size) (tm ta) va → TyIs W (fun b => wx.heap.size ≤ b ∧ b < W.heap.size) (tm tb) vb → Calls Tryd.prog 13 #[.pointer (some ⟨p2, 0, none⟩), va, vb] W fun e w' => e = .returned (.int .i64 (uni τ (tm ta) (tm tb)).1) ∧ PairAt w w' p2 bm2 (uni τ (tm ta) (tm tb)).2 p bm σ' (20000 * i + 10000 + 10000)) := fun W hW va vb h1 h2 =>
            pairUnify (HP2.out.swap.below hW) (by omega) h1 h2 (fun x hx => by have := HP2.out.s2.lt; omega) (Nat.le_trans (tm_sz _) (by omega)) (Nat.le_trans (tm_sz _) (by omega))
          obtain ⟨p0, p1, p2', p3⟩ := hpc
          obtain ⟨q0, q1, q2, q3⟩ := hqc
          clear hca hcb hta htb hpw hqw
          have g2 : (k : Int) < (lb.length : Int) := by omega
          have g3 : (k : Int) < (la.length : Int) := by omega
          unfold NewTy tval at HA HB HTO
          obtain ⟨tx, htx⟩ : ∃ tx, tx = tm ta := ⟨_, rfl⟩
          obtain ⟨ty, hty⟩ : ∃ ty, ty = tm tb := ⟨_, rfl⟩
          have HX := Lib.hid htx
          have HY := Lib.hid hty
          have HZX : Hid (tx.sz ≤ 60) := by rw [htx]; exact tm_sz _
          have HZY : Hid (ty.sz ≤ 60) := by rw [hty]; exact tm_sz _
          rw [← htx] at HA HUN
          rw [← hty] at HB HUN
          clear htx hty
          go_upto_region 8 with fail
          go_region_held3 (fun w' => (w'.cell? ⟨ba, oa' + k * 4, none⟩ = some x0 ∧ w'.cell? ⟨ba, oa' + k * 4 + 1, none⟩ = some x1 ∧ w'.cell? ⟨ba, oa' + k * 4 + 2, none⟩ = some x2 ∧ w'.cell? ⟨ba, oa' + k * 4 + 3, none⟩ = some x3) ∧ (w'.cell? ⟨bb, ob' + k * 4, none⟩ = some y0 ∧ w'.cell? ⟨bb, ob' + k * 4 + 1, none⟩ = some y1 ∧ w'.cell? ⟨bb, ob' + k * 4 + 2, none⟩ = some y2 ∧ w'.cell? ⟨bb, ob' + k * 4 + 3, none⟩ = some y3))
            (with_reducible (first | exact HKP.out _ P9.out.hb | exact HKP.out _ (ot HP2.out.hb B8.out) | exact HKP.out _ (ot HP2.out.hb B7.out) | exact HKP.out _ (ot HP2.out.hb B6.out) | exact HKP.out _ (ot HP2.out.hb B5.out) | exact HKP.out _ HP2.out.hb.drew | go_keep))
            (first
              | (go_at_call 16; (with_reducible refine (HA.out _ ?_).mono ?_); · (repeat (first | exact B9.out | exact B8.out | exact B7.out | exact B6.out | exact B5.out | exact Below.refl _ _ | apply oa | apply od))
                 rintro e w5 ⟨a5, c5, rfl, ht5, hb5⟩; have B5 : Hid (Below wx.heap.size wx w5) := (ot (by (repeat (first | exact B9.out | exact B8.out | exact B7.out | exact B6.out | exact B5.out | exact Below.refl _ _ | apply oa | apply od))) hb5 : Below wx.heap.size wx w5); have T5 := Lib.hid (ht5.mono fun b hb => hb.2); clear ht5 hb5 HA)
              | (go_at_call 17; (with_reducible refine (HTO.out _ _ _ T5.out HZX.out).mono ?_); rintro e w6 ⟨a6, c6, rfl, ht6, hb6⟩; have B6 : Hid (Below wx.heap.size wx w6) := ot B5.out hb6; have T6 := Lib.hid (ht6.mono fun b hb => And.intro (Nat.le_trans B5.out.size hb.1) hb.2); clear ht6 hb6 T5)
              | (go_at_call 16; (with_reducible refine (HB.out _ B6.out).mono ?_); rintro e w7 ⟨a7, c7, rfl, ht7, hb7⟩; have B7 : Hid (Below wx.heap.size wx w7) := ot B6.out hb7; have T7 := Lib.hid (ht7.mono fun b hb => hb.2); have C7 := Lib.hid hb7; clear ht7 hb7 HB)
              | (go_at_call 17; (with_reducible refine (HTO.out _ _ _ T7.out HZY.out).mono ?_); rintro e w8 ⟨a8, c8, rfl, ht8, hb8⟩; have B8 : Hid (Below wx.heap.size wx w8) := ot B7.out hb8; have T8 := Lib.hid (ht8.mono fun b hb => And.intro (Nat.le_trans B7.out.size hb.1) hb.2); have C8 := Lib.hid (C7.out.trans (hb8.mono C7.out.size)); clear ht8 hb8 T7)
              | (go_at_call 13; (with_reducible refine (HUN.out _ B8.out _ _ (ord_up T6.out C8.out) T8.out).mono ?_); rintro e w9 ⟨rfl, hp9⟩; have P9 := Lib.hid hp9; clear hp9))
          all_goals go_wp2
          all_goals
            go_roundg (gk - 1)
            case measure => omega
            case rel =>
              refine ⟨i + 1, ok', (uni τ tx ty).1 == 0, σ', (uni τ tx ty).2, rfl, rfl, by go_num, by omega, P9.out.swap.mono (by omega), HN3.out, HN2.out.uni (by rw [HX.out]; exact tm_nice _) (by rw [HY.out]; exact tm_nice _), HM3.out, fun e => ?_⟩
              rw [eqsB_succ, show ((eqAt la lb (N - 1 - i)).2, (eqAt la lb (N - 1 - i)).1) = (tx, ty) by rw [← HK.out]; unfold eqAt; rw [HTA.out, HTB.out, HX.out, HY.out]]
              exact (HM2.out trivial).step (by simpa using e)
    · obtain rfl : i = N := by omega
      have HKI := Lib.hid (fun W => kinds_any W)
      cases hok : ok && back with
      | false =>
        have hnn : ok = false ∨ back = false := by cases ok <;> cases back <;> simp_all
        have hkk : ∀ W, Below wr.heap.size wr W → Below w.heap.size w W := fun W h => ot HP.out.hb h
        have HKK := Lib.hid hkk
        clear hkk hok
        rcases hnn with rfl | rfl
        · go_wp2_with (first
            | (go_at_call 12; (with_reducible refine (HKI.out wr).mono ?_); rintro e w5 ⟨rfl, hb5⟩; have B5 := Lib.hid hb5; clear hb5)
            | (go_at_call 12; (with_reducible refine (HKI.out w5).mono ?_); rintro e w6 ⟨rfl, hb6⟩; have B6 := Lib.hid (ot B5.out hb6); clear hb6))
          all_goals go_ret
          all_goals exact ⟨rfl, HKK.out _ B6.out⟩
        · cases ok
          all_goals
            go_wp2_with (first
              | (go_at_call 12; (with_reducible refine (HKI.out wr).mono ?_); rintro e w5 ⟨rfl, hb5⟩; have B5 := Lib.hid hb5; clear hb5)
              | (go_at_call 12; (with_reducible refine (HKI.out w5).mono ?_); rintro e w6 ⟨rfl, hb6⟩; have B6 := Lib.hid (ot B5.out hb6); clear hb6))
          all_goals go_ret
          all_goals exact ⟨rfl, HKK.out _ B6.out⟩
      | true =>
        have hnn : ok = true ∧ back = true := by cases ok <;> cases back <;> simp_all
        obtain ⟨rfl, rfl⟩ := hnn
        have hg := eqs_same (HM1.out rfl) (HM2.out rfl)
        have HEQ : Hid ((shownR σ).2 = 0 → (shownR τ).2 = 0 → (shownR σ).1 = (shownR τ).1) := fun h1 h2 => by
          rw [shownR_zero h1, shownR_zero h2]
          exact (shown_alike hg.1 hg.2).symm
        have HX := Lib.hid (fun (W : World) (hW : Below wr.heap.size wr W) => shown_any (HP.out.below hW).s1 HN1.out)
        have HY := Lib.hid (fun (W : World) (hW : Below wr.heap.size wr W) => shown_any (HP.out.below hW).s2 HN2.out)
        generalize (shownR σ).1 = xa at HEQ HX
        generalize (shownR σ).2 = ea at HEQ HX
        generalize (shownR τ).1 = xb at HEQ HY
        generalize (shownR τ).2 = eb at HEQ HY
        clear hg hok
        by_cases h1 : ea = 0
        · by_cases h2 : eb = 0
          · have := HEQ.out h1 h2
            subst h1 h2 this
            go_wp2_with (first
              | (go_at_call 12; (with_reducible refine (HKI.out wr).mono ?_); rintro e w5 ⟨rfl, hb5⟩; have B5 := Lib.hid hb5; clear hb5)
              | (go_at_call 19; (with_reducible refine (HX.out _ B5.out).mono ?_); clear HX; rintro e w6 ⟨rfl, hb6⟩; have B6 := Lib.hid (ot B5.out hb6); clear hb6)
              | (go_at_call 19; (with_reducible refine (HY.out _ B6.out).mono ?_); clear HY; rintro e w7 ⟨rfl, hb7⟩; have B7 := Lib.hid (ot B6.out hb7); clear hb7))
            go_ret
            exact ⟨rfl, ot HP.out.hb B7.out⟩
          · have h3 : (eb == 0) = false := by simpa using h2
            have h4 : (eb != 0) = true := by simp [bne, h3]
            subst h1
            clear h2
            go_wp2_with (first
              | (go_at_call 12; (with_reducible refine (HKI.out wr).mono ?_); rintro e w5 ⟨rfl, hb5⟩; have B5 := Lib.hid hb5; clear hb5)
              | (go_at_call 19; (with_reducible refine (HX.out _ B5.out).mono ?_); clear HX; rintro e w6 ⟨rfl, hb6⟩; have B6 := Lib.hid (ot B5.out hb6); clear hb6)
              | (go_at_call 19; (with_reducible refine (HY.out _ B6.out).mono ?_); clear HY; rintro e w7 ⟨rfl, hb7⟩; have B7 := Lib.hid (ot B6.out hb7); clear hb7))
            go_ret
            exact ⟨rfl, ot HP.out.hb B7.out⟩
        · have h3 : (ea == 0) = false := by simpa using h1
          have h4 : (ea != 0) = true := by simp [bne, h3]
          clear h1
          go_wp2_with (first
            | (go_at_call 12; (with_reducible refine (HKI.out wr).mono ?_); rintro e w5 ⟨rfl, hb5⟩; have B5 := Lib.hid hb5; clear hb5)
            | (go_at_call 19; (with_reducible refine (HX.out _ B5.out).mono ?_); clear HX; rintro e w6 ⟨rfl, hb6⟩; have B6 := Lib.hid (ot B5.out hb6); clear hb6)
            | (go_at_call 19; (with_reducible refine (HY.out _ B6.out).mono ?_); clear HY; rintro e w7 ⟨rfl, hb7⟩; have B7 := Lib.hid (ot B6.out hb7); clear hb7))
          go_ret
          exact ⟨rfl, ot HP.out.hb B7.out⟩
end Go.Proofs.YthchkekegkhanaaDoor
