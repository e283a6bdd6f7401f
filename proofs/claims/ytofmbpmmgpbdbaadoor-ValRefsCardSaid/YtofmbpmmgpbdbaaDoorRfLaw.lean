/- The law of the objects that a value names: the walk. -/
import Derived.Test.YtofmbpmmgpbdbaaDoorMvRef
import Derived.Test.YtofmbpmmgpbdbaaDoorTxt4
import Derived.Test.YtofmbpmmgpbdbaaDoorNests
import Derived.Test.YtofmbpmmgpbdbaaDoorSameP
import Derived.ChangeArms
import Derived.OpenShut
import Derived.ProofKit
namespace Go.Proofs.YtofmbpmmgpbdbaaDoor
open Go.RowKit Go.Maps Wr
set_option linter.unusedVariables false

/-- The first of a row of pairs, as the reference looks it up. -/
theorem first_eq : ∀ zs : List PW, firstOf zs = firstP (zs.map (·.1))
  | [] => by funext n; rfl
  | x :: zs => by
    funext n
    have ih := congrFun (first_eq zs) n
    unfold firstOf at ih ⊢
    rw [List.reverse_cons, asg_snoc, List.map_cons, firstP]
    unfold upd
    by_cases h : x.1.1 = n
    · rw [if_pos h.symm, if_pos h]
    · rw [if_neg (fun e => h e.symm), if_neg h]; exact ih
structure RfAt (w W : World) (ua ub : VT) (aoa : Option Addr) (capa : Nat) (aob : Option Addr) (capb N1 N2 : Nat) (v1 v2 : Value) : Prop where
  at' : NestAt w W w.heap.size ua ub aoa capa aob capb
  i1 : IRow W N1 v1 ua.refs
  i2 : IRow W N2 v2 ua.refs
section
variable {w W W' : World} {ua ub : VT} {aoa aob : Option Addr} {capa capb N1 N2 : Nat} {v1 v2 : Value}
theorem RfAt.below (h : RfAt w W ua ub aoa capa aob capb N1 N2 v1 v2) (hb : Below W.heap.size W W') : RfAt w W' ua ub aoa capa aob capb N1 N2 v1 v2 := ⟨h.at'.below hb, h.i1.below hb, h.i2.below hb⟩
abbrev RfS (w : World) (ua ub : VT) (aoa : Option Addr) (capa : Nat) (aob : Option Addr) (capb : Nat) (w' : World) : Prop :=
  (w'.cell? ⟨w.heap.size, 0, none⟩ = some (.int .i64 ua.kind) ∧ w'.cell? ⟨w.heap.size, 1, none⟩ = some (.int .i64 ua.num) ∧ w'.cell? ⟨w.heap.size, 2, none⟩ = some (.string ua.text) ∧ w'.cell? ⟨w.heap.size, 3, none⟩ = some (.slice aoa ua.kids.length capa)) ∧ (w'.cell? ⟨w.heap.size + 1, 0, none⟩ = some (.int .i64 ub.kind) ∧ w'.cell? ⟨w.heap.size + 1, 1, none⟩ = some (.int .i64 ub.num) ∧ w'.cell? ⟨w.heap.size + 1, 2, none⟩ = some (.string ub.text) ∧ w'.cell? ⟨w.heap.size + 1, 3, none⟩ = some (.slice aob ub.kids.length capb))
theorem rf_S (h : NestAt w W w.heap.size ua ub aoa capa aob capb) : RfS w ua ub aoa capa aob capb W := by
  obtain ⟨c0, c1, c2, c3, _⟩ := hdr4_cells h.zA
  obtain ⟨d0, d1, d2, d3, _⟩ := hdr4_cells h.zB
  exact ⟨⟨c0, c1, c2, c3⟩, d0, d1, d2, d3⟩
end
def zps (olds : List Int) (i : Nat) : List PW := (List.range i).map fun j => pw (olds.getD j 0) ((j : Int) + 1)
theorem zps_next (olds : List Int) (i : Nat) : zps olds (i + 1) = zps olds i ++ [pw (olds.getD i 0) ((i : Int) + 1)] := by unfold zps; rw [List.range_succ, List.map_append]; rfl
theorem zps_len (olds : List Int) (i : Nat) : (zps olds i).length = i := by simp [zps]
theorem flatP_snoc (x : Int × Int) : ∀ l : List (Int × Int), flatP (l ++ [x]) = flatP l ++ [x.1, x.2]
  | [] => rfl
  | y :: l => by rw [List.cons_append, flatP, flatP_snoc x l, flatP]; rfl
def mps (olds : List Int) (i : Nat) : List Int := flatP ((zps olds i).map (·.1))
theorem mps_len (olds : List Int) (i : Nat) : (mps olds i).length = 2 * i := by rw [mps, flatP_len, List.length_map, zps_len]
theorem mps_next (olds : List Int) (i : Nat) {a : Int} (h : (pw (olds.getD i 0) ((i : Int) + 1)).1 = (a, (i : Int) + 1)) : mps olds (i + 1) = mps olds i ++ [a, (i : Int) + 1] := by
  unfold mps
  rw [zps_next, List.map_append, List.map_cons, List.map_nil, flatP_snoc, h]
theorem IRow.two (w : World) (x y : Int) : IRow (w.alloc (.cells #[.int .i64 x, .int .i64 y] 3)) w.heap.size (.slice (some ⟨w.heap.size, 0, none⟩) 2 2) [x, y] := by
  refine ⟨⟨rfl, .inr ⟨w.heap.size, 2, #[.int .i64 x, .int .i64 y], rfl, Nat.zero_le _, World.alloc_heap_new w _, Nat.le_refl _, by unfold maxLen; omega, rfl, rfl⟩⟩, fun k hk => by simp only [Value.ownBlock, Option.some.injEq] at hk; omega⟩
theorem wpList_appp {w : World} {ops : Array Oper} {rest : List Oper} {o : Oper} {a : Act} {Q : Exit → Act → World → Prop} (hgd : o.guard = none) (s x : Operand)
    (ho : o.op = .call { callee := .builtin .append, args := #[s, x], argTypes := #[41, 41] }) {N : Nat} {v : Value} {zs : List PW} {y : PW} (hs : a.eval s = v) (hr : PRow w N v zs) {ad : Addr} {c : Nat} (hx : a.eval x = .slice (some ad) 1 c)
    (hnews : ∀ j u, [Value.int .i64 y.1.1, .int .i64 y.1.2][j]? = some u → w.cell? (ad.add j) = some u) (hN : N ≤ w.heap.size) (h63 : zs.length ≤ 1000000)
    (h : ∀ v' w', PRow w' N v' (zs ++ [y]) → OwnStep w v w' v' → wpList Tryd.prog ops Q rest (a.put o.dst v') w') : wpList Tryd.prog ops Q (o :: rest) a w := by
  refine wpList_plain hgd fun K hK => ?_
  have hw : Region.wanted o (yielded ops a.tmps) = true := by simp [Region.wanted, hgd]
  have := step_appp (ops := ops) (K := K) (Q := Q) (E := True) hgd s x ho hs hr hx hnews hN h63 (fun v' w' h1 h2 => hK _ _ (h v' w' h1 h2))
  rw [if_pos hw] at this
  exact this
theorem own_made0 (w : World) {o : Obj} {w' : World} {v v' : Value} (h : OwnStep (w.alloc o) v w' v') : OwnStep w v w' v' := (OwnStep.made v ((Below.refl w.heap.size w).alloc (Nat.le_refl _) o)).trans h
theorem own_away {w w' : World} {v v' x : Value} (hd : ∀ k, v.ownBlock = some k → x.ownBlock ≠ some k) (h : OwnStep w v w' v') (hx : ∀ k, x.ownBlock = some k → k < w.heap.size) : ∀ k, v'.ownBlock = some k → x.ownBlock ≠ some k := by
  intro k hk hxk
  rcases h.2 with e | ⟨j, e, hj⟩
  · rw [e] at hk; exact hd k hk hxk
  · rw [e] at hk; cases hk; have := hx _ hxk; omega
theorem own_away2 {w w' : World} {v v' x : Value} (hd : ∀ k, x.ownBlock = some k → v.ownBlock ≠ some k) (h : OwnStep w v w' v') (hx : ∀ k, x.ownBlock = some k → k < w.heap.size) : ∀ k, x.ownBlock = some k → v'.ownBlock ≠ some k := by
  intro k hk hvk
  rcases h.2 with e | ⟨j, e, hj⟩
  · rw [e] at hvk; exact hd k hk hvk
  · rw [e] at hvk; cases hvk; have := hx _ hk; omega
structure RfEnd (w W : World) (ua ub u : VT) (aoa : Option Addr) (capa : Nat) (aob : Option Addr) (capb N1 N2 : Nat) (v1 v2 : Value) (B1 B2 : Nat) (ao1 : Option Addr) (c1 : Nat) (ao2 : Option Addr) (c2 : Nat) : Prop where
  rf : RfAt w W ua ub aoa capa aob capb N1 N2 v1 v2
  z1 : W.heap[B1]? = some (.cells #[.int .i64 u.kind, .int .i64 u.num, .string u.text, .slice ao1 u.kids.length c1] 24 (0, 0))
  z2 : W.heap[B2]? = some (.cells #[.int .i64 u.kind, .int .i64 u.num, .string u.text, .slice ao2 u.kids.length c2] 24 (0, 0))
  u1 : ValIs W (fun x => x < W.heap.size) u (vval u ao1 c1)
  u2 : ValIs W (fun x => x < W.heap.size) u (vval u ao2 c2)
section
variable {w W W' : World} {ua ub u : VT} {aoa aob ao1 ao2 : Option Addr} {capa capb c1 c2 N1 N2 B1 B2 : Nat} {v1 v2 : Value}
theorem vin {t : VT} {v : Value} (h : ValIs W (fun b => b < W.heap.size) t v) (hb : Below W.heap.size W W') : ValIs W' (fun b => b < W'.heap.size) t v := (h.below hb (fun b hb => hb)).mono (fun _ hx => Nat.lt_of_lt_of_le hx hb.size)
theorem RfEnd.below (h : RfEnd w W ua ub u aoa capa aob capb N1 N2 v1 v2 B1 B2 ao1 c1 ao2 c2) (hb : Below W.heap.size W W') : RfEnd w W' ua ub u aoa capa aob capb N1 N2 v1 v2 B1 B2 ao1 c1 ao2 c2 :=
  ⟨h.rf.below hb, (hb.block _ (lt_of_block h.z1)).trans h.z1, (hb.block _ (lt_of_block h.z2)).trans h.z2, vin h.u1 hb, vin h.u2 hb⟩
abbrev RfT (p : Nat) (t : VT) (ao : Option Addr) (c : Nat) (w' : World) : Prop :=
  w'.cell? ⟨p, 0, none⟩ = some (.int .i64 t.kind) ∧ w'.cell? ⟨p, 1, none⟩ = some (.int .i64 t.num) ∧ w'.cell? ⟨p, 2, none⟩ = some (.string t.text) ∧ w'.cell? ⟨p, 3, none⟩ = some (.slice ao t.kids.length c)
theorem rf_T (h : RfEnd w W ua ub u aoa capa aob capb N1 N2 v1 v2 B1 B2 ao1 c1 ao2 c2) : RfT w.heap.size ua aoa capa W ∧ RfT B1 u ao1 c1 W ∧ RfT B2 u ao2 c2 W := by
  obtain ⟨c0, c1, c2, c3, _⟩ := hdr4_cells h.rf.at'.zA
  obtain ⟨d0, d1, d2, d3, _⟩ := hdr4_cells h.z1
  obtain ⟨e0, e1, e2, e3, _⟩ := hdr4_cells h.z2
  exact ⟨⟨c0, c1, c2, c3⟩, ⟨d0, d1, d2, d3⟩, e0, e1, e2, e3⟩
end
def CmpLoop (w : World) (ua ub u : VT) (aoa : Option Addr) (capa : Nat) (aob : Option Addr) (capb N1 N2 : Nat) (v1 v2 : Value) (B1 B2 : Nat) (ao1 : Option Addr) (c1 : Nat) (ao2 : Option Addr) (c2 : Nat) (L gk : Nat) (s16 : Value) (wr : World) : Prop :=
  ∃ i : Nat, s16 = .int .i64 i ∧ i + gk = L ∧ RfEnd w wr ua ub u aoa capa aob capb N1 N2 v1 v2 B1 B2 ao1 c1 ao2 c2
/-- A slice of integers that came in. -/
def IntsIn (w : World) (v : Value) (l : List Int) : Prop := ∃ ao cap, v = .slice ao l.length cap ∧ l.length ≤ cap ∧ cap ≤ maxLen ∧ ∀ j, j < l.length → ∃ b off, ao = some ⟨b, off, none⟩ ∧ b < w.heap.size ∧ w.cell? ⟨b, off + j, none⟩ = some (.int .i64 (l.getD j 0))
theorem IntsIn.below {w w' : World} {v : Value} {l : List Int} (h : IntsIn w v l) (hb : Below w.heap.size w w') : IntsIn w' v l := by
  obtain ⟨ao, cap, h1, h2, h3, h4⟩ := h
  refine ⟨ao, cap, h1, h2, h3, fun j hj => ?_⟩
  obtain ⟨b, off, e, hl, hc⟩ := h4 j hj
  exact ⟨b, off, e, Nat.lt_of_lt_of_le hl hb.size, (hb.cell (p := ⟨b, off + j, none⟩) hl).trans hc⟩
theorem IntsIn.cell {w : World} {ao : Option Addr} {n cap : Nat} {l : List Int} (h : IntsIn w (.slice ao n cap) l) {i : Nat} (hi : i < l.length) : ∃ g off, ao = some ⟨g, off, none⟩ ∧ w.cell? ⟨g, off + i, none⟩ = some (.int .i64 (l.getD i 0)) := by
  obtain ⟨ao', cap', e, _, _, h4⟩ := h
  cases e
  obtain ⟨b, off, e, _, hc⟩ := h4 i hi
  exact ⟨b, off, e, hc⟩
set_option maxRecDepth 100000 in
open Go.ChangeShapes Go.WideShapes in
/-- A slice of integers that came in, and each of them is one. -/
theorem law_olds {H : Type} {enc : TypeId × Value → H} {W : World} {v : Value} {base : Nat} {d : DataW H} {ps : List MemPlace} (hok : Value.okWide Tryd.prog W .any base 38 v) (h : DataW.Trod enc Tryd.prog W 0 (fun _ => true) true 38 v d ps) :
    ∃ l : List Int, IntsIn W v l ∧ ∀ n ∈ l, (Lit.int .i64 n).wf = true := by
  obtain ⟨ao, len, cap, rfl⟩ := okWide_slice Tryd.underlying38 hok
  obtain ⟨fuel, hf⟩ := h
  rcases open_ints Tryd.underlying38 Tryd.underlying3 (by kernel_rfl) hf with ⟨e, _⟩ | ⟨a, len', cap', zs, e, _, h1, h2, h3, _, h4, h5⟩
  · have e' : Value.slice ao len cap = .slice none 0 0 := by simpa [Value.cells] using e
    rw [e']
    exact ⟨[], ⟨none, 0, rfl, Nat.le_refl _, by unfold maxLen; omega, fun j hj => absurd hj (by simp)⟩, fun n hn => by simp at hn⟩
  · have e' : Value.slice ao len cap = .slice (some a) len' cap' := by simpa [Value.cells] using e
    rw [e']
    rw [if_pos rfl] at h3
    have hlen : (zs.take len').length = len' := by rw [List.length_take]; omega
    refine ⟨zs.take len', ⟨some a, cap', by rw [hlen], by rw [hlen]; exact h1, h2, fun j hj => ?_⟩, fun n hn => h5 n (List.mem_of_mem_take hn)⟩
    rw [hlen] at hj
    have hc := h4 j (by omega)
    have hs := World.cell?_spot (h4 0 (by omega))
    obtain ⟨g, o, spot⟩ := a
    have hs' : spot = none := by simpa [Addr.add] using hs
    subst hs'
    rw [Go.WideShapes.add_plain] at hc
    refine ⟨g, o, rfl, World.block_lt_of_cell? _ _ hc, ?_⟩
    rw [hc]
    have e2 : (zs.take len').getD j 0 = zs.getD j 0 := by
      rw [List.getD_eq_getElem?_getD, List.getD_eq_getElem?_getD, List.getElem?_take_of_lt hj]
    rw [e2]
def OlLoop (W6 : World) (olds : List Int) (gk : Nat) (s9 s10 s11 : Value) (wr : World) : Prop :=
  ∃ i : Nat, s11 = .int .i64 i ∧ i + gk = min olds.length 40 ∧ PRow wr W6.heap.size s9 (zps olds i) ∧ IRow wr W6.heap.size s10 (mps olds i) ∧ (∀ k, s9.ownBlock = some k → s10.ownBlock ≠ some k) ∧ Below W6.heap.size W6 wr
set_option maxRecDepth 100000 in
set_option maxHeartbeats 8000000 in
theorem valRefs_walk (ta tb : VT) (va vb : Value) (w : World) (P : Nat → Prop) (hT : Tab w) (hZ : Tz w) (hva : ValIs w P ta va) (hvb : ValIs w P tb vb) (hP : ∀ x, P x → x < w.heap.size) (olds : List Int) (vo : Value) (ho : IntsIn w vo olds) (hwo : ∀ n ∈ olds, (Lit.int .i64 n).wf = true) : Calls Tryd.prog 7 #[va, vb, vo] w fun e w' => e = .returned (.bool true) ∧ Below w.heap.size w w' := by
  have HT := Lib.hid hT
  have HZ := Lib.hid hZ
  obtain ⟨ua, hua⟩ : ∃ u, topTame ta = u := ⟨_, rfl⟩
  obtain ⟨ub, hub⟩ : ∃ u, topTame tb = u := ⟨_, rfl⟩
  have HA : Hid (∀ W, Below w.heap.size w W → Calls Tryd.prog 10 #[va] W (TopEnd W ua)) := fun W hW => by
    have := top_any ta va W P (hva.below hW hP) (fun b hb => Nat.lt_of_lt_of_le (hP b hb) hW.size)
    rwa [hua] at this
  have HB : Hid (∀ W, Below w.heap.size w W → Calls Tryd.prog 10 #[vb] W (TopEnd W ub)) := fun W hW => by
    have := top_any tb vb W P (hvb.below hW hP) (fun b hb => Nat.lt_of_lt_of_le (hP b hb) hW.size)
    rwa [hub] at this
  have HTW : Hid (∀ W aoa capa, ValIs W (fun b => b < W.heap.size) ua (vval ua aoa capa) → Calls Tryd.prog 10 #[vval ua aoa capa] W (TopEnd W ua)) := fun W aoa capa hv => by
    have := top_any ua _ W _ hv (fun b hb => hb)
    rw [← hua, topTame_twice] at this
    rwa [hua] at this
  have SA : Hid (ua.sz ≤ 1300) := by rw [← hua]; exact topTame_sz ta
  have SB : Hid (ub.sz ≤ 1300) := by rw [← hub]; exact topTame_sz tb
  obtain ⟨ka, na, sa, la⟩ := ta
  obtain ⟨kb, nb, sb, lb⟩ := tb
  unfold ValIs at hva hvb
  obtain ⟨ao, cap, rfl, _⟩ := hva
  obtain ⟨ao', cap', rfl, _⟩ := hvb
  clear hua hub hT hZ hP
  have HO := Lib.hid ho
  have HWO := Lib.hid hwo
  clear hwo
  obtain ⟨aoo, co, rfl, hlo, hmo, _⟩ := ho
  go_enter Tryd.func7, Tryd.ntmps7
  go_upto_region 1 with fail
  obtain ⟨W0, hW0⟩ : ∃ W0, W0 = ((w.alloc (.cells #[.int .i64 ka, .int .i64 na, .string sa, .slice ao la.length cap] 24 (0, 0))).alloc (.cells #[.int .i64 kb, .int .i64 nb, .string sb, .slice ao' lb.length cap'] 24 (0, 0))) := ⟨_, rfl⟩
  have hB0 : Below w.heap.size w W0 := by rw [hW0]; exact ((Below.refl _ _).alloc (Nat.le_refl _) _).trans ((Below.refl _ _).alloc (by simp) _)
  have hs0 : W0.heap.size = w.heap.size + 2 := by rw [hW0]; simp
  have z0A : W0.heap[w.heap.size]? = some (.cells #[.int .i64 ka, .int .i64 na, .string sa, .slice ao la.length cap] 24 (0, 0)) := by rw [hW0]; exact (Below.heap_alloc _ _ _ (by simp)).trans (World.alloc_heap_new _ _)
  have z0B : W0.heap[w.heap.size + 1]? = some (.cells #[.int .i64 kb, .int .i64 nb, .string sb, .slice ao' lb.length cap'] 24 (0, 0)) := by
    rw [hW0]
    have := World.alloc_heap_new (w.alloc (.cells #[.int .i64 ka, .int .i64 na, .string sa, .slice ao la.length cap] 24 (0, 0))) (.cells #[.int .i64 kb, .int .i64 nb, .string sb, .slice ao' lb.length cap'] 24 (0, 0))
    simpa using this
  rw [← hW0]
  have HW0 := Lib.hid hW0
  have B0 := Lib.hid hB0
  have S0 := Lib.hid hs0
  obtain ⟨a0, a1, a2, a3, a4⟩ := hdr4_cells z0A
  obtain ⟨b0, b1, b2, b3, b4⟩ := hdr4_cells z0B
  have ZA := Lib.hid z0A
  have ZB := Lib.hid z0B
  clear hW0 hB0 hs0 z0A z0B
  have hne : w.heap.size ≠ w.heap.size + 1 := by omega
  go_cut [] (fun wx => NestHead w ua ub wx)
  case first =>
    go_region_law (first
      | (refine step_callw (w := W0.drew) (by rfl) 10 #[.agg #[.int .i64 ka, .int .i64 na, .string sa, .slice ao la.length cap]] ?_ (HA.out W0.drew (B0.out.drew)) ?_; go_simp; rintro e w5 ⟨ao5, cap5, rfl, hv5, hb5⟩; refine ⟨_, rfl, ?_⟩; replace hb5 : Below W0.heap.size W0 w5 := ((Below.refl _ _).drew).trans hb5; replace hv5 : ValIs w5 (fun b => W0.heap.size ≤ b ∧ b < w5.heap.size) ua (vval ua ao5 cap5) := hv5; have zb5 := (hb5.block (w.heap.size + 1) (by have := S0.out; omega)).trans ZB.out; obtain ⟨c0, c1, c2, c3, c4⟩ := hdr4_cells zb5; have za5 := (hb5.block w.heap.size (by have := S0.out; omega)).trans ZA.out; have ZA5 := Lib.hid za5; have ZB5 := Lib.hid zb5; have B5 := Lib.hid hb5; have V5 := Lib.hid hv5; clear hb5 hv5 zb5 za5)
      | (refine step_callw (w := w5) (by rfl) 10 #[.agg #[.int .i64 kb, .int .i64 nb, .string sb, .slice ao' lb.length cap']] ?_ (HB.out w5 (B0.out.trans (B5.out.mono B0.out.size))) ?_; go_simp; rintro e w7 ⟨ao7, cap7, rfl, hv7, hb7⟩; refine ⟨_, rfl, ?_⟩; have zb7 := (hb7.block (w.heap.size + 1) (lt_of_block ZB5.out)).trans ZB5.out; have za7 := (hb7.block w.heap.size (lt_of_block ZA5.out)).trans ZA5.out; obtain ⟨e0, e1, e2, e3, e4⟩ := hdr4_cells za7; obtain ⟨d0, d1, d2, d3, d4⟩ := hdr4_cells zb7; have B7 := Lib.hid hb7; have V7 := Lib.hid hv7; clear hb7 hv7 za7 zb7))
    all_goals go_wp2
    all_goals go_meet
    all_goals exact nest_head HW0.out ⟨_, _, _, _, rfl⟩ ⟨_, _, _, _, rfl⟩ B5.out V5.out B7.out V7.out
  case rest =>
    obtain ⟨aoa, capa, aob, capb, hn⟩ := hcut
    obtain ⟨c0, c1, c2, c3, _⟩ := hdr4_cells hn.zA
    obtain ⟨d0, d1, d2, d3, _⟩ := hdr4_cells hn.zB
    have HN := Lib.hid hn
    clear hn a0 a1 a2 a3 a4 b0 b1 b2 b3 b4 ZA ZB B0 S0 HW0 HA HB
    go_upto_region 2 with fail
    go_cut [7, 8] (fun s7 s8 wx => NestAt w wx w.heap.size ua ub aoa capa aob capb ∧ ∃ N N', IRow wx N s7 ua.refs ∧ IRow wx N' s8 ua.refs)
    case first =>
      have HD := Lib.hid (HN.out.below (Below.refl _ _).drew)
      go_region_law (first
        | (refine step_callw (w := wc.drew) (by rfl) 16 #[.agg #[.int .i64 ua.kind, .int .i64 ua.num, .string ua.text, .slice aoa ua.kids.length capa]] ?_ (refs_walk ua.sz ua _ wc.drew _ (Nat.le_refl _) HD.out.vA (fun b hb => hb) (by have := SA.out; omega)) ?_; go_simp; rintro e w11 ⟨v11, rfl, hr11, hb11⟩; obtain ⟨ao11, cap11, rfl, _⟩ := hr11.form; refine ⟨_, rfl, ?_⟩; have HD1 := Lib.hid (HD.out.below hb11); obtain ⟨g0, g1, g2, g3, _⟩ := hdr4_cells HD1.out.zA; have R11 := Lib.hid hr11; clear hr11 hb11)
        | (refine step_callw (w := w11) (by rfl) 19 #[.agg #[.int .i64 ua.kind, .int .i64 ua.num, .string ua.text, .slice aoa ua.kids.length capa]] ?_ (refRefs_walk ua.sz ua _ w11 _ (Nat.le_refl _) HD1.out.vA (fun b hb => hb) (by have := SA.out; omega)) ?_; go_simp; rintro e w13 ⟨v13, rfl, hr13, hb13⟩; obtain ⟨ao13, cap13, rfl, _⟩ := hr13.form; refine ⟨_, rfl, ?_⟩; have R13 := Lib.hid hr13; have R12 := Lib.hid (R11.out.below hb13); have HD2 := Lib.hid (HD1.out.below hb13); clear hr13 hb13))
      all_goals go_wp2
      all_goals go_meet
      all_goals exact ⟨HD2.out, _, _, R12.out, R13.out⟩
    case rest =>
      obtain ⟨hf, N1, N2, hr1, hr2⟩ := hcut
      rename World => w20
      obtain ⟨ao7, cap7, rfl, hl7, hm7⟩ := hr1.form
      obtain ⟨ao8, cap8, rfl, hl8, hm8⟩ := hr2.form
      have SRL : Hid (ua.refs.length ≤ 1300) := Nat.le_trans (VT.refs_len ua) SA.out
      have hrf : RfAt w w20 ua ub aoa capa aob capb N1 N2 (.slice ao7 ua.refs.length cap7) (.slice ao8 ua.refs.length cap8) := ⟨hf, hr1, hr2⟩
      obtain ⟨rl, hrl⟩ : ∃ rl, ua.refs = rl := ⟨_, rfl⟩
      rw [hrl] at hrf SRL hl7 hl8 ⊢
      have HRL := Lib.hid hrl
      have HF := Lib.hid (hrf.below (Below.refl _ _).drew)
      unfold maxLen at hm7 hm8
      clear hf hr1 hr2 hrf hrl HN
      obtain ⟨sb, hsb⟩ : ∃ sb, ua.same ub = sb := ⟨_, rfl⟩
      have hsn : (sb != sb) = false := by simp
      have hln : ((rl.length : Int) != (rl.length : Int)) = false := by simp
      have SR := VT.same_refl ua
      have H1 : Hid (Calls Tryd.prog 13 #[] w20.drew fun e W => e = .returned (.bool true) ∧ RfAt w W ua ub aoa capa aob capb N1 N2 (.slice ao7 rl.length cap7) (.slice ao8 rl.length cap8)) :=
        (vals_any _ (HT.out.below HF.out.at'.hb)).mono fun e W h => ⟨h.1, HF.out.below h.2⟩
      have H2 : Hid (∀ W', RfAt w W' ua ub aoa capa aob capb N1 N2 (.slice ao7 rl.length cap7) (.slice ao8 rl.length cap8) → Calls Tryd.prog 20 #[.agg #[.int .i64 ua.kind, .int .i64 ua.num, .string ua.text, .slice aoa ua.kids.length capa], .agg #[.int .i64 ub.kind, .int .i64 ub.num, .string ub.text, .slice aob ub.kids.length capb]] W' fun e W => e = .returned (.bool sb) ∧ RfAt w W ua ub aoa capa aob capb N1 N2 (.slice ao7 rl.length cap7) (.slice ao8 rl.length cap8)) := fun W' h =>
        (same_walk ua.sz ua ub _ _ W' _ (Nat.le_refl _) h.at'.vA h.at'.vB (fun b hb => hb)).mono fun e W h' => ⟨h'.1.trans (by rw [hsb]), h.below h'.2⟩
      have H3 : Hid (∀ W', RfAt w W' ua ub aoa capa aob capb N1 N2 (.slice ao7 rl.length cap7) (.slice ao8 rl.length cap8) → Calls Tryd.prog 15 #[.agg #[.int .i64 ua.kind, .int .i64 ua.num, .string ua.text, .slice aoa ua.kids.length capa], .agg #[.int .i64 ub.kind, .int .i64 ub.num, .string ub.text, .slice aob ub.kids.length capb]] W' fun e W => e = .returned (.bool sb) ∧ RfAt w W ua ub aoa capa aob capb N1 N2 (.slice ao7 rl.length cap7) (.slice ao8 rl.length cap8)) := fun W' h =>
        (refSame_walk ua.sz ua ub _ _ W' _ (Nat.le_refl _) h.at'.vA h.at'.vB (fun b hb => hb)).mono fun e W h' => ⟨h'.1.trans (by rw [hsb]), h.below h'.2⟩
      have H4 : Hid (∀ W', RfAt w W' ua ub aoa capa aob capb N1 N2 (.slice ao7 rl.length cap7) (.slice ao8 rl.length cap8) → Calls Tryd.prog 10 #[.agg #[.int .i64 ua.kind, .int .i64 ua.num, .string ua.text, .slice aoa ua.kids.length capa]] W' fun e W => (∃ ao9 cap9, e = .returned (.agg #[.int .i64 ua.kind, .int .i64 ua.num, .string ua.text, .slice ao9 ua.kids.length cap9]) ∧ ValIs W (fun b => b < W.heap.size) ua (vval ua ao9 cap9)) ∧ RfAt w W ua ub aoa capa aob capb N1 N2 (.slice ao7 rl.length cap7) (.slice ao8 rl.length cap8)) := fun W' h =>
        (HTW.out W' aoa capa h.at'.vA).mono fun e W h' => by
          obtain ⟨ao9, cap9, rfl, hv9, hb9⟩ := h'
          exact ⟨⟨ao9, cap9, rfl, hv9.mono (fun b hb => hb.2)⟩, h.below hb9⟩
      have H5 : Hid (∀ W' ao9 cap9, RfAt w W' ua ub aoa capa aob capb N1 N2 (.slice ao7 rl.length cap7) (.slice ao8 rl.length cap8) → ValIs W' (fun b => b < W'.heap.size) ua (vval ua ao9 cap9) → Calls Tryd.prog 20 #[.agg #[.int .i64 ua.kind, .int .i64 ua.num, .string ua.text, .slice aoa ua.kids.length capa], .agg #[.int .i64 ua.kind, .int .i64 ua.num, .string ua.text, .slice ao9 ua.kids.length cap9]] W' fun e W => e = .returned (.bool true) ∧ RfAt w W ua ub aoa capa aob capb N1 N2 (.slice ao7 rl.length cap7) (.slice ao8 rl.length cap8)) := fun W' ao9 cap9 h hv =>
        (same_walk ua.sz ua ua _ _ W' _ (Nat.le_refl _) h.at'.vA hv (fun b hb => hb)).mono fun e W h' => ⟨h'.1.trans (by rw [SR]), h.below h'.2⟩
      clear hsb SR c0 c1 c2 c3 d0 d1 d2 d3
      go_wp2
      go_region_held3 (fun w' => (w'.cell? ⟨w.heap.size, 0, none⟩ = some (.int .i64 ua.kind) ∧ w'.cell? ⟨w.heap.size, 1, none⟩ = some (.int .i64 ua.num) ∧ w'.cell? ⟨w.heap.size, 2, none⟩ = some (.string ua.text) ∧ w'.cell? ⟨w.heap.size, 3, none⟩ = some (.slice aoa ua.kids.length capa)) ∧ (w'.cell? ⟨w.heap.size + 1, 0, none⟩ = some (.int .i64 ub.kind) ∧ w'.cell? ⟨w.heap.size + 1, 1, none⟩ = some (.int .i64 ub.num) ∧ w'.cell? ⟨w.heap.size + 1, 2, none⟩ = some (.string ub.text) ∧ w'.cell? ⟨w.heap.size + 1, 3, none⟩ = some (.slice aob ub.kids.length capb))) (with_reducible (first | exact rf_S HD5.out.at' | exact rf_S HD4.out.at' | exact rf_S HD3.out.at' | exact rf_S HD2.out.at' | exact rf_S HD1.out.at' | exact rf_S HF.out.at'))
        (first
          | (go_at_call 13; with_reducible refine H1.out.mono ?_; clear H1; rintro e w31 ⟨rfl, hb31⟩; have HD1 := Lib.hid hb31; clear hb31)
          | (go_at_call 20; with_reducible refine (H2.out w31 HD1.out).mono ?_; clear H2; rintro e w33 ⟨rfl, hb33⟩; have HD2 := Lib.hid hb33; clear hb33)
          | (go_at_call 15; with_reducible refine (H3.out w33 HD2.out).mono ?_; clear H3; rintro e w35 ⟨rfl, hb35⟩; have HD3 := Lib.hid hb35; clear hb35)
          | (go_at_call 10; with_reducible refine (H4.out w35 HD3.out).mono ?_; clear H4; rintro e w37 ⟨⟨ao9, cap9, rfl, hv9⟩, hb37⟩; have HD4 := Lib.hid hb37; have V9 := Lib.hid hv9; clear hb37 hv9)
          | (go_at_call 20; with_reducible refine (H5.out w37 ao9 cap9 HD4.out V9.out).mono ?_; clear H5; rintro e w39 ⟨rfl, hb39⟩; have HD5 := Lib.hid hb39; clear hb39))
      all_goals
        clear hsn hln HTW
        go_wp2
      have HL : Hid (OlLoop w39 olds (min olds.length 40) (.slice none 0 0) (.slice none 0 0) (.int .i64 0) w39) := ⟨0, rfl, by omega, PRow.nil _ _, IRow.nil _ _, (by intro k hk; simp [Value.ownBlock] at hk), Below.refl _ _⟩
      go_loopg [9, 10, 11] (min olds.length 40) (fun gk s9 s10 s11 wr => OlLoop w39 olds gk s9 s10 s11 wr)
      case atStart => exact HL.out
      case round =>
        clear HL
        obtain ⟨i, rfl, hik, hp, hi, hdis, hb⟩ := hrel
        have HPR := Lib.hid hp
        have HIR := Lib.hid hi
        have HDI := Lib.hid hdis
        have HB := Lib.hid hb
        have HOR := Lib.hid (HO.out.below (HD5.out.at'.hb.trans (hb.mono HD5.out.at'.hb.size)))
        clear hp hi hdis hb
        have g0 : (0 : Int) ≤ (i : Int) := by omega
        by_cases hlt : i < olds.length ∧ i < 40
        · obtain ⟨hl1, hl2⟩ := hlt
          have g1 : (i : Int) < (olds.length : Int) := by omega
          have g2 : (i : Int) < 40 := by omega
          obtain ⟨g, off, rfl, p0⟩ := HOR.out.cell hl1
          obtain ⟨n, hn⟩ : ∃ n, olds.getD i 0 = n := ⟨_, rfl⟩
          rw [hn] at p0
          have hget : olds[i]? = some n := by rw [← hn]; simp [List.getD, hl1]
          have hpv : (pw (olds.getD i 0) ((i : Int) + 1)).1 = (n, (i : Int) + 1) := by rw [hn]; exact pw_val (HWO.out n (List.mem_of_getElem? hget)) (wf_in (by omega) (by omega))
          have HPV := Lib.hid hpv
          have HMN := Lib.hid (mps_next olds i hpv)
          have HZN := Lib.hid (zps_next olds i)
          obtain ⟨zs, hzs⟩ : ∃ zs, zs = zps olds i := ⟨_, rfl⟩
          obtain ⟨ms, hms⟩ : ∃ ms, ms = mps olds i := ⟨_, rfl⟩
          have LZ : Hid (zs.length ≤ 40) := by show zs.length ≤ 40; rw [hzs, zps_len]; omega
          have LM : Hid (ms.length ≤ 80) := by show ms.length ≤ 80; rw [hms, mps_len]; omega
          rw [← hzs] at HPR HZN
          rw [← hms] at HIR HMN
          have HNN := Lib.hid hn
          clear hzs hms hn hget hpv
          obtain ⟨aoz, cz, rfl⟩ := HPR.out.form
          obtain ⟨aom, cm, rfl, _⟩ := HIR.out.form
          have hw1 : IntKind.i64.wrap ((i : Int) + 1) = (i : Int) + 1 := by rw [IntKind.wrap_i64]; omega
          have p2 := fun o => new_ne' wr p0 o
          go_upto_region 11 with (at_builtin; refine wpList_appp (w := wr.alloc (.cells #[.int .i64 n, .int .i64 ((i : Int) + 1)] 43)) rfl _ _ rfl (N := w39.heap.size) (zs := zs) (y := pw (olds.getD i 0) ((i : Int) + 1)) rfl (HPR.out.chg ((Chg.refl [] wr).alloc _) (by simp)) (ad := ⟨wr.heap.size, 0, none⟩) (c := 1) rfl (by rw [HPV.out]; exact cell_two_new _ _ _ _) (by have := HB.out.size; simp; omega) (by have := LZ.out; omega) ?_; intro v20 w40 hr40 ho40; have R40 := Lib.hid hr40; have O40 := Lib.hid (own_made0 wr ho40); clear hr40 ho40)
          have D40 : Hid (∀ k, v20.ownBlock = some k → (Value.slice aom ms.length cm).ownBlock ≠ some k) := own_away HDI.out O40.out (fun k hk => HIR.out.1.lt hk)
          have A40 : Hid (IRow w40 w39.heap.size (.slice aom ms.length cm) ms) := HIR.out.aside O40.out (fun k hk hv => HDI.out k hv hk)
          have B40 : Hid (Below w39.heap.size w39 w40) := HB.out.trans (O40.out.below HB.out.size HPR.out.2)
          obtain ⟨g', off', e', q0⟩ := (HO.out.below (HD5.out.at'.hb.trans (B40.out.mono HD5.out.at'.hb.size))).cell hl1
          cases e'
          rw [HNN.out] at q0
          have q2 := fun o => new_ne' w40 q0 o
          go_wp2_with (at_builtin; refine wpList_appi (w := w40.alloc (.cells #[.int .i64 n, .int .i64 ((i : Int) + 1)] 3)) rfl _ _ rfl (l := ms) (m := [n, (i : Int) + 1]) rfl (A40.out.below ((Below.refl _ _).alloc (Nat.le_refl _) _)) rfl (IRow.two w40 n ((i : Int) + 1)) (by have := B40.out.size; simp; omega) (by have := LM.out; simp; omega) ?_; intro v21 w41 hr41 ho41; have R41 := Lib.hid hr41; have O41 := Lib.hid (own_made0 w40 ho41); clear hr41 ho41)
          go_roundg (gk - 1)
          case measure => omega
          case rel => exact ⟨i + 1, by go_num, by omega, by rw [HZN.out]; exact R40.out.chg O41.out.1 (fun k hk hm => D40.out k hk (Option.mem_toList.1 hm)), by rw [HMN.out]; exact R41.out, own_away2 D40.out O41.out (fun k hk => R40.out.1.lt hk), B40.out.trans (O41.out.below B40.out.size A40.out.2)⟩
        · have HIK : Hid (i = min olds.length 40) := by show i = _; omega
          obtain ⟨zs, hzs⟩ : ∃ zs, zs = zps olds i := ⟨_, rfl⟩
          obtain ⟨ms, hms⟩ : ∃ ms, ms = mps olds i := ⟨_, rfl⟩
          have LZ : Hid (zs.length ≤ 40) := by show zs.length ≤ 40; rw [hzs, zps_len]; omega
          have HMZ : Hid (ms = flatP (zs.map (·.1))) := by show ms = _; rw [hms, hzs]; rfl
          rw [← hzs] at HPR
          rw [← hms] at HIR
          clear hzs hms
          obtain ⟨aoz, cz, rfl⟩ := HPR.out.form
          obtain ⟨aom, cm, rfl, _⟩ := HIR.out.form
          have HF6 := Lib.hid (HD5.out.below HB.out)
          obtain ⟨c0, c1, c2, c3, _⟩ := hdr4_cells HF6.out.at'.zA
          rcases (show (i < olds.length ∧ ¬ i < 40) ∨ ¬ i < olds.length by omega) with ⟨h7, h8⟩ | h7
          all_goals
            clear hlt
            go_upto_region 12 with fail
            have HMV := Lib.hid (move_any ua _ wr _ (.slice aoz zs.length cz) zs (by have := SA.out; omega) HF6.out.at'.vA (fun b hb => hb) (by have := LZ.out; omega) HPR.out.is ⟨_, _, _, rfl⟩)
            obtain ⟨r, hr⟩ : ∃ r, ua.move (firstOf zs) = r := ⟨_, rfl⟩
            rw [hr] at HMV
            have HR := Lib.hid hr
            obtain ⟨u, hu⟩ : ∃ u, r.getD zeroT = u := ⟨_, rfl⟩
            have HU := Lib.hid hu
            clear hr hu
            go_upto_region 13 with (go_at_call 18; refine HMV.out.mono ?_; clear HMV; rintro e w51 ⟨v51, rfl, hv51, hb51⟩; rw [HU.out] at hv51; obtain ⟨ao51, c51, rfl⟩ := hv51.form; have V51 := Lib.hid hv51; have B51 := Lib.hid hb51; clear hv51 hb51; unfold vval)
            have rf1 : RfAt w (w51.alloc (.cells #[.int .i64 u.kind, .int .i64 u.num, .string u.text, .slice ao51 u.kids.length c51] 24 (0, 0))) ua ub aoa capa aob capb N1 N2 (.slice ao7 rl.length cap7) (.slice ao8 rl.length cap8) := (HF6.out.below B51.out).below ((Below.refl _ _).alloc (Nat.le_refl _) _)
            have z1 : (w51.alloc (.cells #[.int .i64 u.kind, .int .i64 u.num, .string u.text, .slice ao51 u.kids.length c51] 24 (0, 0))).heap[w51.heap.size]? = some (.cells #[.int .i64 u.kind, .int .i64 u.num, .string u.text, .slice ao51 u.kids.length c51] 24 (0, 0)) := World.alloc_heap_new _ _
            have v1 : ValIs (w51.alloc (.cells #[.int .i64 u.kind, .int .i64 u.num, .string u.text, .slice ao51 u.kids.length c51] 24 (0, 0))) (fun x => x < (w51.alloc (.cells #[.int .i64 u.kind, .int .i64 u.num, .string u.text, .slice ao51 u.kids.length c51] 24 (0, 0))).heap.size) u (vval u ao51 c51) := vin (V51.out.mono (fun b hb => hb.2)) ((Below.refl _ _).alloc (Nat.le_refl _) _)
            have i1 : IRow (w51.alloc (.cells #[.int .i64 u.kind, .int .i64 u.num, .string u.text, .slice ao51 u.kids.length c51] 24 (0, 0))) w39.heap.size (.slice aom ms.length cm) (flatP (zs.map (·.1))) := by rw [← HMZ.out]; exact (HIR.out.below B51.out).below ((Below.refl _ _).alloc (Nat.le_refl _) _)
            generalize (w51.alloc (.cells #[.int .i64 u.kind, .int .i64 u.num, .string u.text, .slice ao51 u.kids.length c51] 24 (0, 0))) = W1 at rf1 z1 v1 i1 ⊢
            have HMR := Lib.hid (refMove_walk (zs.map (·.1)) w39.heap.size (.slice aom ms.length cm) (by rw [List.length_map]; have := LZ.out; omega) (fun x hx => by obtain ⟨y, _, rfl⟩ := List.mem_map.1 hx; exact y.2.2) ua.sz ua _ W1 _ (Nat.le_refl _) (by have := SA.out; omega) rf1.at'.vA (fun b hb => hb) i1)
            rw [← first_eq zs, HR.out] at HMR
            obtain ⟨b0, b1, b2, b3, _⟩ := hdr4_cells rf1.at'.zA
            have RF1 := Lib.hid rf1
            have Z1 := Lib.hid z1
            have V1 := Lib.hid v1
            obtain ⟨ok, hok⟩ : ∃ ok, r.isSome = ok := ⟨_, rfl⟩
            rw [hok]
            have HOK := Lib.hid hok
            clear hok
            clear rf1 z1 v1 i1 HIR HPR HMZ
            go_upto_block 2 with (go_at_call 21; refine HMR.out.mono ?_; clear HMR; rintro e w53 ⟨v53, rfl, hv53, hb53⟩; rw [HOK.out]; rw [HU.out] at hv53; obtain ⟨ao53, c53, rfl⟩ := hv53.form; have V53 := Lib.hid hv53; have B53 := Lib.hid hb53; clear hv53 hb53; unfold vval)
            have rf2 : RfEnd w (w53.alloc (.cells #[.int .i64 u.kind, .int .i64 u.num, .string u.text, .slice ao53 u.kids.length c53] 24 (0, 0))) ua ub u aoa capa aob capb N1 N2 (.slice ao7 rl.length cap7) (.slice ao8 rl.length cap8) w51.heap.size w53.heap.size ao51 c51 ao53 c53 := by
              have hb1 : Below W1.heap.size W1 (w53.alloc (.cells #[.int .i64 u.kind, .int .i64 u.num, .string u.text, .slice ao53 u.kids.length c53] 24 (0, 0))) := B53.out.trans ((Below.refl _ _).alloc B53.out.size _)
              exact ⟨RF1.out.below hb1, (hb1.block _ (lt_of_block Z1.out)).trans Z1.out, World.alloc_heap_new _ _, vin V1.out hb1, vin (V53.out.mono (fun b hb => hb.2)) ((Below.refl _ _).alloc (Nat.le_refl _) _)⟩
            generalize (w53.alloc (.cells #[.int .i64 u.kind, .int .i64 u.num, .string u.text, .slice ao53 u.kids.length c53] 24 (0, 0))) = W2 at rf2 ⊢
            have RF2 := Lib.hid rf2
            clear rf2 RF1 Z1 V1 V53 B53 V51 B51 HR HU b0 b1 b2 b3 c0 c1 c2 c3
            go_wp2
            go_loopg [16] rl.length (fun gk s16 wq => CmpLoop w ua ub u aoa capa aob capb N1 N2 (.slice ao7 rl.length cap7) (.slice ao8 rl.length cap8) w51.heap.size w53.heap.size ao51 c51 ao53 c53 rl.length gk s16 wq)
            case atStart => exact ⟨0, rfl, by omega, RF2.out⟩
            case round =>
              clear RF2
              obtain ⟨i2, rfl, hik2, hrf⟩ := hrel
              have HRF := Lib.hid hrf
              have g2 : (0 : Int) ≤ (i2 : Int) := by omega
              by_cases hlt2 : i2 < rl.length
              · have g3 : (i2 : Int) < (rl.length : Int) := by omega
                have hr1 := hrf.rf.i1
                have hr2 := hrf.rf.i2
                rw [HRL.out] at hr1 hr2
                obtain ⟨g, rfl, p0⟩ := hr1.cell hlt2
                obtain ⟨g', rfl, q0⟩ := hr2.cell hlt2
                generalize rl.getD i2 0 = n at p0 q0
                clear hr1 hr2 hrf
                go_wp2
                go_quiet (fail)
                go_wp2
                go_roundg (gk - 1)
                case measure => omega
                case rel => exact ⟨i2 + 1, by go_num, by omega, HRF.out.below (below_drewN (Below.refl _ _) _)⟩
              · obtain rfl : i2 = rl.length := by omega
                obtain ⟨ee, hee⟩ : ∃ x, encErr ua = x := ⟨_, rfl⟩
                have HEN := Lib.hid (refEncode_any ua _ _ _ hrf.rf.at'.vA (fun b hb => hb))
                unfold RefEncEnd at HEN
                rw [hee] at HEN
                have HEE := Lib.hid hee
                obtain ⟨⟨c0, c1, c2, c3⟩, _, _⟩ := rf_T hrf
                clear hee hrf
                go_upto_region 20 with (go_at_call 11; refine HEN.out.mono ?_; clear HEN; rintro e w61 ⟨rfl, hb61⟩; have HRF6 := Lib.hid (HRF.out.below hb61); clear hb61)
                have HF := Lib.hid (HRF6.out.below (Below.refl _ _).drew)
                have SR := VT.same_refl u
                have H1 : Hid (Calls Tryd.prog 15 #[.agg #[.int .i64 u.kind, .int .i64 u.num, .string u.text, .slice ao51 u.kids.length c51], .agg #[.int .i64 u.kind, .int .i64 u.num, .string u.text, .slice ao53 u.kids.length c53]] w61.drew fun e W => e = .returned (.bool true) ∧ RfEnd w W ua ub u aoa capa aob capb N1 N2 (.slice ao7 rl.length cap7) (.slice ao8 rl.length cap8) w51.heap.size w53.heap.size ao51 c51 ao53 c53) :=
                  (refSame_walk u.sz u u _ _ _ _ (Nat.le_refl _) HF.out.u1 HF.out.u2 (fun b hb => hb)).mono fun e W h' => ⟨h'.1.trans (by rw [SR]), HF.out.below h'.2⟩
                clear c0 c1 c2 c3 SR
                have HS := Lib.hid (rf_T HF.out)
                by_cases hz : ee = 0
                · subst hz
                  obtain ⟨tx, htx⟩ : ∃ tx, bytes (ua.txt flHex) = tx := ⟨_, rfl⟩
                  have LX : (ua.txt flHex).length ≤ 1000000 := txt_small (by have := (err_zero HEE.out).2; omega)
                  have H2 : Hid (∀ W, RfEnd w W ua ub u aoa capa aob capb N1 N2 (.slice ao7 rl.length cap7) (.slice ao8 rl.length cap8) w51.heap.size w53.heap.size ao51 c51 ao53 c53 → Calls Tryd.prog 17 #[.agg #[.int .i64 ua.kind, .int .i64 ua.num, .string ua.text, .slice aoa ua.kids.length capa]] W fun e W => e = .returned (.string tx) ∧ RfEnd w W ua ub u aoa capa aob capb N1 N2 (.slice ao7 rl.length cap7) (.slice ao8 rl.length cap8) w51.heap.size w53.heap.size ao51 c51 ao53 c53) := fun W h =>
                    (text_walk flHex true w HT.out (fun _ x W hx hW => flBits_any x hx W (HZ.out.below hW)) ua.sz ua _ W _ 1 (Nat.le_refl _) (err_zero HEE.out).1 (.inl rfl) h.rf.at'.vA (fun b hb => hb) h.rf.at'.hb LX).mono fun e W h' => ⟨h'.1.trans (by rw [htx]), h.below h'.2⟩
                  have H3 : Hid (∀ W, RfEnd w W ua ub u aoa capa aob capb N1 N2 (.slice ao7 rl.length cap7) (.slice ao8 rl.length cap8) w51.heap.size w53.heap.size ao51 c51 ao53 c53 → Calls Tryd.prog 22 #[.agg #[.int .i64 ua.kind, .int .i64 ua.num, .string ua.text, .slice aoa ua.kids.length capa]] W fun e W => e = .returned (.string tx) ∧ RfEnd w W ua ub u aoa capa aob capb N1 N2 (.slice ao7 rl.length cap7) (.slice ao8 rl.length cap8) w51.heap.size w53.heap.size ao51 c51 ao53 c53) := fun W h =>
                    (refTxt_walk ua.sz ua _ W _ 1 (Nat.le_refl _) (err_zero HEE.out).1 h.rf.at'.vA (fun b hb => hb) LX).mono fun e W h' => ⟨h'.1.trans (by rw [htx]), h.below h'.2⟩
                  clear htx LX
                  go_wp2
                  go_region_held3 (fun w' => RfT w.heap.size ua aoa capa w' ∧ RfT w51.heap.size u ao51 c51 w' ∧ RfT w53.heap.size u ao53 c53 w') (with_reducible (first | exact rf_T HD3.out | exact rf_T HD2.out | exact rf_T HD1.out | exact HS.out))
                    (first
                      | (go_at_call 15; with_reducible refine H1.out.mono ?_; clear H1; rintro e w71 ⟨rfl, hb71⟩; have HD1 := Lib.hid hb71; clear hb71)
                      | (go_at_call 17; with_reducible refine (H2.out w71 HD1.out).mono ?_; clear H2; rintro e w73 ⟨rfl, hb73⟩; have HD2 := Lib.hid hb73; clear hb73)
                      | (go_at_call 22; with_reducible refine (H3.out w73 HD2.out).mono ?_; clear H3; rintro e w75 ⟨rfl, hb75⟩; have HD3 := Lib.hid hb75; clear hb75))
                  all_goals go_wp2
                  all_goals go_ret
                  all_goals exact ⟨rfl, HD3.out.rf.at'.hb⟩
                · have t1 : (ee == 0) = false := by simpa using hz
                  have t2 : (ee != 0) = true := by simp [bne, t1]
                  clear hz
                  obtain ⟨⟨c0, c1, c2, c3⟩, ⟨d0, d1, d2, d3⟩, e0, e1, e2, e3⟩ := rf_T HRF6.out
                  go_wp2
                  first | go_region_law ((refine step_callg (w := w61.drew) (by rfl) 15 #[.agg #[.int .i64 u.kind, .int .i64 u.num, .string u.text, .slice ao51 u.kids.length c51], .agg #[.int .i64 u.kind, .int .i64 u.num, .string u.text, .slice ao53 u.kids.length c53]] ?_ H1.out ?_; go_simp; rintro e w71 ⟨rfl, hb71⟩; refine ⟨.bool true, rfl, ?_⟩; have HD1 := Lib.hid hb71; clear hb71)) | fail
                  all_goals go_wp2
                  all_goals go_ret
                  all_goals exact ⟨rfl, HD1.out.rf.at'.hb⟩
end Go.Proofs.YtofmbpmmgpbdbaaDoor
