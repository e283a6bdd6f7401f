/- A row of pairs, backward: the library's iterator. -/
import Derived.RangeFuncNested
import Derived.RangeFuncBound
import Derived.RangeFuncCalls
import Derived.RangeFuncLeaves
import Derived.RangeFuncBox
import Derived.Shelf.Abstract
import Derived.Shelf.RegionOpen
import Derived.OwnWalkIn
import Derived.TacticsInMore
import Derived.LoopNIn
import Derived.LoopIn
import Derived.Maps.OwnIn
import Derived.Test.YtofmbpmmgpbdbaaDoorMove2
namespace Go.Proofs.YtofmbpmmgpbdbaaDoor
open Go.RowKit Go.Shelf Go.Maps
set_option linter.unusedVariables false
attribute [local go_sem] Oper.semAt_some

/-- Two numbers within their range. -/
abbrev PW := { x : Int × Int // (Lit.int .i64 x.1).wf = true ∧ (Lit.int .i64 x.2).wf = true }
/-- The slice value sv holds the pairs zs, in a block below n₀; or it is nil and there are none. -/
def PairsIs (n₀ : Nat) (W : World) (sv : Value) (zs : List PW) : Prop :=
  (sv = .slice none 0 0 ∧ zs = []) ∨ ∃ b off cap, sv = .slice (some ⟨b, off, none⟩) zs.length cap ∧ b < n₀ ∧ ∀ j x, zs[j]? = some x → W.cell? ⟨b, off + j * 2, none⟩ = some (.int .i64 x.1.1) ∧ W.cell? ⟨b, off + j * 2 + 1, none⟩ = some (.int .i64 x.1.2)
theorem PairsIs.below {n₀ : Nat} {A B : World} (h : Below n₀ A B) {sv : Value} {zs : List PW} : PairsIs n₀ A sv zs → PairsIs n₀ B sv zs
  | .inl e => .inl e
  | .inr ⟨b, off, cap, e, hb, hc⟩ => .inr ⟨b, off, cap, e, hb, fun j x hj => ⟨(h.cell (p := ⟨b, off + j * 2, none⟩) hb).trans (hc j x hj).1, (h.cell (p := ⟨b, off + j * 2 + 1, none⟩) hb).trans (hc j x hj).2⟩⟩
def encP (x : Nat × PW) : Array Value := #[.int .i64 (x.1 : Int), .agg #[.int .i64 x.2.1.1, .int .i64 x.2.1.2]]

/-- What a round keeps: what lay below n₀, and the box of the row. -/
def KpB (n₀ Bs : Nat) (A B : World) : Prop := Below n₀ A B ∧ B.heap[Bs]? = A.heap[Bs]?
theorem kpB_t {n₀ Bs : Nat} {A B C : World} (h : KpB n₀ Bs A B) (k : KpB n₀ Bs B C) : KpB n₀ Bs A C := ⟨h.1.trans k.1, k.2.trans h.2⟩
theorem kpB_b {n₀ Bs : Nat} {w : World} (hn : n₀ ≤ w.heap.size) (hB : Bs < w.heap.size) (W : World) (l : Nat) (o o' : Obj) (hl : w.heap.size ≤ l) (h : W.heap[l]? = some o) (h1 : o.isCells = false) (h2 : o.isWalk = false) : KpB n₀ Bs W (W.putObj l o') :=
  ⟨belowK_b hn W l o o' hl h h1 h2, (grownBy_putObj' W l o').block Bs (by have := (Array.getElem?_eq_some_iff.1 h).1; omega) (by simp; omega)⟩
set_option maxRecDepth 100000 in
set_option maxHeartbeats 2000000 in
theorem back1_in (F : Fence) (n : Nat) (h7 : F.fn 62) (hro : F.round = none) (hn : 1 ≤ n) (l Bs n₀ b off len cap : Nat) (zs : List PW) (hlen : zs.length = len) (hreach : len ≤ 1000000) (hb : b < n₀) (J Jx : List (Nat × PW) → World → Prop)
    (hY : ∀ pre x W, J pre W → pre.length < len → YieldAt F (n - 1) Tryd.prog l #[.int .i64 (x.1 : Int), .agg #[.int .i64 x.2.1.1, .int .i64 x.2.1.2]] W fun e W' =>
      (e = .returned (.bool true) ∧ J (pre ++ [x]) W' ∧ KpB n₀ Bs W W') ∨ (e = .returned (.bool false) ∧ Jx (pre ++ [x]) W'))
    (W : World) (hBs : W.cell? ⟨Bs, 0, none⟩ = some (.slice (some ⟨b, off, none⟩) len cap)) (hc : ∀ j x, zs[j]? = some x → W.cell? ⟨b, off + j * 2, none⟩ = some (.int .i64 x.1.1) ∧ W.cell? ⟨b, off + j * 2 + 1, none⟩ = some (.int .i64 x.1.2)) (h0 : J [] W) :
    CallsIn F n Tryd.prog 62 #[.func (.yield l) #[] #[], .pointer (some ⟨Bs, 0, none⟩)] W fun e W' => (∃ v, e = .returned v) ∧
      ((∃ ys : List (Nat × PW), ys.map (·.2) = zs.reverse ∧ J ys W') ∨ (∃ pre, True ∧ Jx pre W')) := by
  refine callsIn_of_wp Tryd.func62 rfl h7 ?_ hro
  simp only [Tryd.ntmps62, List.size_toArray, List.length_cons, List.length_nil, Nat.reduceAdd, Nat.reduceSub, Array.replicate_succ, Array.replicate_zero, List.push_toArray, List.append_toArray, List.nil_append, List.cons_append]
  have hw0 : IntKind.i64.wrap ((len : Int) - 1) = (len : Int) - 1 := by rw [IntKind.wrap_i64]; omega
  gi_wp2
  gi_loopw [3] (fun i wr => ∃ (m : Nat) (pre : List (Nat × PW)), i = .int .i64 ((m : Int) - 1) ∧ m ≤ len ∧ pre.length + m = len ∧ pre.map (·.2) = (zs.drop m).reverse ∧ J pre wr ∧ KpB n₀ Bs W wr)
    (fun i _ => (intOf i + 1).toNat)
  case atStart => exact ⟨len, [], rfl, Nat.le_refl _, by simp, by rw [List.drop_of_length_le (by omega)]; rfl, h0, Below.refl _ _, rfl⟩
  case round =>
    obtain ⟨m, pre, rfl, hm, hpl, hpre, hJs, hnx⟩ := hrel
    have hBs' : wr.cell? ⟨Bs, 0, none⟩ = some (.slice (some ⟨b, off, none⟩) len cap) := by
      rw [← hBs]
      unfold World.cell?
      rw [hnx.2]
    cases m with
    | zero =>
      gi_wp2
      go_end0
      exact ⟨⟨_, rfl⟩, .inl ⟨pre, by rw [hpre, List.drop_zero], hJs⟩⟩
    | succ m =>
      obtain ⟨x, hx⟩ : ∃ x, zs[m]? = some x := ⟨_, List.getElem?_eq_getElem (by omega)⟩
      obtain ⟨fn, tmps, assign, body, hy, hR⟩ := hY pre (m, x) wr hJs (by omega)
      dsimp only at hy
      obtain ⟨c0, c1⟩ := hc m x hx
      replace c0 := (hnx.1.cell (p := ⟨b, off + m * 2, none⟩) hb).trans c0
      replace c1 := (hnx.1.cell (p := ⟨b, off + m * 2 + 1, none⟩) hb).trans c1
      have e1 : (((m + 1 : Nat) : Int) - 1) = (m : Int) := by omega
      rw [e1]
      have i0 : (0 : Int) ≤ (m : Int) := by omega
      have i1 : (m : Int) < (len : Int) := by omega
      have i2 : IntKind.i64.wrap ((m : Int) - 1) = (m : Int) - 1 := by rw [IntKind.wrap_i64]; omega
      have hdr : (zs.drop m).reverse = (zs.drop (m + 1)).reverse ++ [x] := by
        have : zs.drop m = x :: zs.drop (m + 1) := by
          rw [List.drop_eq_getElem_cons (by omega)]; congr 1; exact Option.some.inj ((List.getElem?_eq_getElem (by omega)).symm.trans hx)
        rw [this, List.reverse_cons]
      have HDR := Lib.hid hdr
      have HPRE := Lib.hid hpre
      have HX := Lib.hid hx
      clear hdr hpre hx
      gi_wp2
      refine hR.mono ?_
      rintro e W3 (⟨rfl, hJ3, hk3⟩ | ⟨rfl, hJx3⟩)
      · gi_wp2
        go_roundw
        case rel => exact ⟨m, pre ++ [(m, x)], by go_num, by omega, by rw [List.length_append, List.length_singleton]; omega, by rw [List.map_append, HPRE.out, HDR.out]; rfl, hJ3, kpB_t hnx hk3⟩
        case measure => simp [intOf]
      · gi_wp2
        refine bodyPost_ret (results_none rfl _ _ _) rfl ?_
        exact ⟨⟨_, rfl⟩, .inr ⟨_, trivial, hJx3⟩⟩
set_option maxRecDepth 100000 in
set_option maxHeartbeats 1000000 in
theorem back1_nil_in (F : Fence) (n : Nat) (h7 : F.fn 62) (hro : F.round = none) (l Bs : Nat) (J : List (Nat × PW) → World → Prop) (W : World) (hBs : W.cell? ⟨Bs, 0, none⟩ = some (.slice none 0 0)) (h0 : J [] W) :
    CallsIn F n Tryd.prog 62 #[.func (.yield l) #[] #[], .pointer (some ⟨Bs, 0, none⟩)] W fun e W' => (∃ v, e = .returned v) ∧ J [] W' := by
  refine callsIn_of_wp Tryd.func62 rfl h7 ?_ hro
  simp only [Tryd.ntmps62, List.size_toArray, List.length_cons, List.length_nil, Nat.reduceAdd, Nat.reduceSub, Array.replicate_succ, Array.replicate_zero, List.push_toArray, List.append_toArray, List.nil_append, List.cons_append]
  gi_wp2
  gi_loopw [3] (fun i wr => i = .int .i64 (-1) ∧ J [] wr) (fun _ _ => 0)
  case atStart => exact ⟨rfl, h0⟩
  case round =>
    obtain ⟨rfl, hJs⟩ := hrel
    gi_wp2
    go_end0
    exact ⟨⟨_, rfl⟩, hJs⟩
set_option maxRecDepth 100000 in
set_option maxHeartbeats 1000000 in
theorem backward_in (F : Fence) (n : Nat) (h5 : F.fn 35) (hro : F.round = none) (a : Option Addr) (len cap : Nat) (w : World) :
    CallsIn F n Tryd.prog 35 #[.slice a len cap] w fun e w' => e = .returned (.func (.func 62) #[] #[.pointer (some ⟨w.heap.size, 0, none⟩)]) ∧ w' = w.alloc (.cells #[.slice a len cap] 41) := by
  refine callsIn_of_wp Tryd.func35 rfl h5 ?_ hro
  simp only [Tryd.ntmps35, List.size_toArray, List.length_cons, List.length_nil, Nat.reduceAdd, Nat.reduceSub, Array.replicate_succ, Array.replicate_zero, List.push_toArray, List.append_toArray, List.nil_append, List.cons_append]
  gi_wp2
  go_ret
  exact ⟨rfl, rfl⟩
end Go.Proofs.YtofmbpmmgpbdbaaDoor
