/- Texts of the proof, in build order: GrBackR, GrBackO, GrVal, GrDir, GrDir2, GrR13, GrRefS, GrMk2, GrGath, GrVRow, GrMk4. -/
import Derived.Test.YtenikoecnfbfoaaDoorB22
import Derived.Test.YtenikoecnfbfoaaDoorB16
import Derived.Test.YtenikoecnfbfoaaDoorB01
import Derived.Test.YtenikoecnfbfoaaDoorB14
import Derived.Test.YtenikoecnfbfoaaDoorB05
import Derived.Test.YtenikoecnfbfoaaDoorB02
import Derived.Test.YtenikoecnfbfoaaDoorB09
/- A row of roots, backward: the library's iterator. -/
namespace Go.Proofs.YtenikoecnfbfoaaDoor
open Go.RowKit Go.Shelf Go.Maps
set_option linter.unusedVariables false
set_option linter.unusedSimpArgs false
open Gr (RT)
attribute [local go_sem] Oper.semAt_some

set_option maxRecDepth 100000 in
set_option maxHeartbeats 2000000 in
theorem backR1_in (F : Fence) (n : Nat) (h7 : F.fn 29) (hro : F.round = none) (hn : 1 ≤ n) (l Bs n₀ b off len cap : Nat) (zs : List RT) (hlen : zs.length = len) (hreach : len ≤ 1000000) (hb : b < n₀) (J Jx : List (Nat × RT) → World → Prop)
    (hY : ∀ pre x W, J pre W → pre.length < len → YieldAt F (n - 1) Tryd.prog l #[.int .i64 (x.1 : Int), .agg #[.string (bytes x.2.name), .string (bytes x.2.typ), .int .i64 x.2.id]] W fun e W' =>
      (e = .returned (.bool true) ∧ J (pre ++ [x]) W' ∧ KpB n₀ Bs W W') ∨ (e = .returned (.bool false) ∧ Jx (pre ++ [x]) W'))
    (W : World) (hBs : W.cell? ⟨Bs, 0, none⟩ = some (.slice (some ⟨b, off, none⟩) len cap)) (hc : ∀ j x, zs[j]? = some x → W.cell? ⟨b, off + j * 3, none⟩ = some (.string (bytes x.name)) ∧ W.cell? ⟨b, off + j * 3 + 1, none⟩ = some (.string (bytes x.typ)) ∧ W.cell? ⟨b, off + j * 3 + 2, none⟩ = some (.int .i64 x.id)) (h0 : J [] W) :
    CallsIn F n Tryd.prog 29 #[.func (.yield l) #[] #[], .pointer (some ⟨Bs, 0, none⟩)] W fun e W' => (∃ v, e = .returned v) ∧
      ((∃ ys : List (Nat × RT), ys.map (·.2) = zs.reverse ∧ J ys W') ∨ (∃ pre, True ∧ Jx pre W')) := by
  refine callsIn_of_wp Tryd.func29 rfl h7 ?_ hro
  simp only [Tryd.ntmps29, List.size_toArray, List.length_cons, List.length_nil, Nat.reduceAdd, Nat.reduceSub, Array.replicate_succ, Array.replicate_zero, List.push_toArray, List.append_toArray, List.nil_append, List.cons_append]
  have hw0 : IntKind.i64.wrap ((len : Int) - 1) = (len : Int) - 1 := by rw [IntKind.wrap_i64]; omega
  gi_wp2
  gi_loopw [3] (fun i wr => ∃ (m : Nat) (pre : List (Nat × RT)), i = .int .i64 ((m : Int) - 1) ∧ m ≤ len ∧ pre.length + m = len ∧ pre.map (·.2) = (zs.drop m).reverse ∧ J pre wr ∧ KpB n₀ Bs W wr)
    (fun i _ => (intOf i + 1).toNat)
  case atStart => exact ⟨len, [], rfl, Nat.le_refl _, by simp, by rw [List.drop_of_length_le (by omega)]; rfl, h0, Below.refl _ _, rfl⟩
  case round =>
    obtain ⟨m, pre, rfl, hm, hpl, hpre, hJs, hnx⟩ := hrel
    have hBs' : wr.cell? ⟨Bs, 0, none⟩ = some (.slice (some ⟨b, off, none⟩) len cap) := by
      rw [← hBs]
      unfold World.cell?
      rw [hnx.2]
    cases m with
    | zero =>
      gi_wp2
      go_end0
      exact ⟨⟨_, rfl⟩, .inl ⟨pre, by rw [hpre, List.drop_zero], hJs⟩⟩
    | succ m =>
      obtain ⟨x, hx⟩ : ∃ x, zs[m]? = some x := ⟨_, List.getElem?_eq_getElem (by omega)⟩
      obtain ⟨fn, tmps, assign, body, hy, hR⟩ := hY pre (m, x) wr hJs (by omega)
      dsimp only at hy
      obtain ⟨c0, c1, c2⟩ := hc m x hx
      replace c0 := (hnx.1.cell (p := ⟨b, off + m * 3, none⟩) hb).trans c0
      replace c1 := (hnx.1.cell (p := ⟨b, off + m * 3 + 1, none⟩) hb).trans c1
      replace c2 := (hnx.1.cell (p := ⟨b, off + m * 3 + 2, none⟩) hb).trans c2
      have e1 : (((m + 1 : Nat) : Int) - 1) = (m : Int) := by omega
      rw [e1]
      have i0 : (0 : Int) ≤ (m : Int) := by omega
      have i1 : (m : Int) < (len : Int) := by omega
      have i2 : IntKind.i64.wrap ((m : Int) - 1) = (m : Int) - 1 := by rw [IntKind.wrap_i64]; omega
      have hdr : (zs.drop m).reverse = (zs.drop (m + 1)).reverse ++ [x] := by
        have : zs.drop m = x :: zs.drop (m + 1) := by
          rw [List.drop_eq_getElem_cons (by omega)]; congr 1; exact Option.some.inj ((List.getElem?_eq_getElem (by omega)).symm.trans hx)
        rw [this, List.reverse_cons]
      have HDR := Lib.hid hdr
      have HPRE := Lib.hid hpre
      have HX := Lib.hid hx
      clear hdr hpre hx
      gi_wp2
      refine hR.mono ?_
      rintro e W3 (⟨rfl, hJ3, hk3⟩ | ⟨rfl, hJx3⟩)
      · gi_wp2
        go_roundw
        case rel => exact ⟨m, pre ++ [(m, x)], by go_num, by omega, by rw [List.length_append, List.length_singleton]; omega, by rw [List.map_append, HPRE.out, HDR.out]; rfl, hJ3, kpB_t hnx hk3⟩
        case measure => simp [intOf]
      · gi_wp2
        refine bodyPost_ret (results_none rfl _ _ _) rfl ?_
        exact ⟨⟨_, rfl⟩, .inr ⟨_, trivial, hJx3⟩⟩
set_option maxRecDepth 100000 in
set_option maxHeartbeats 1000000 in
theorem backR1_nil_in (F : Fence) (n : Nat) (h7 : F.fn 29) (hro : F.round = none) (l Bs : Nat) (J : List (Nat × RT) → World → Prop) (W : World) (hBs : W.cell? ⟨Bs, 0, none⟩ = some (.slice none 0 0)) (h0 : J [] W) :
    CallsIn F n Tryd.prog 29 #[.func (.yield l) #[] #[], .pointer (some ⟨Bs, 0, none⟩)] W fun e W' => (∃ v, e = .returned v) ∧ J [] W' := by
  refine callsIn_of_wp Tryd.func29 rfl h7 ?_ hro
  simp only [Tryd.ntmps29, List.size_toArray, List.length_cons, List.length_nil, Nat.reduceAdd, Nat.reduceSub, Array.replicate_succ, Array.replicate_zero, List.push_toArray, List.append_toArray, List.nil_append, List.cons_append]
  gi_wp2
  gi_loopw [3] (fun i wr => i = .int .i64 (-1) ∧ J [] wr) (fun _ _ => 0)
  case atStart => exact ⟨rfl, h0⟩
  case round =>
    obtain ⟨rfl, hJs⟩ := hrel
    gi_wp2
    go_end0
    exact ⟨⟨_, rfl⟩, hJs⟩
set_option maxRecDepth 100000 in
set_option maxHeartbeats 1000000 in
theorem backwardR_in (F : Fence) (n : Nat) (h5 : F.fn 18) (hro : F.round = none) (a : Option Addr) (len cap : Nat) (w : World) :
    CallsIn F n Tryd.prog 18 #[.slice a len cap] w fun e w' => e = .returned (.func (.func 29) #[] #[.pointer (some ⟨w.heap.size, 0, none⟩)]) ∧ w' = w.alloc (.cells #[.slice a len cap] 29) := by
  refine callsIn_of_wp Tryd.func18 rfl h5 ?_ hro
  simp only [Tryd.ntmps18, List.size_toArray, List.length_cons, List.length_nil, Nat.reduceAdd, Nat.reduceSub, Array.replicate_succ, Array.replicate_zero, List.push_toArray, List.append_toArray, List.nil_append, List.cons_append]
  gi_wp2
  go_ret
  exact ⟨rfl, rfl⟩
end Go.Proofs.YtenikoecnfbfoaaDoor
/- A row of objects, backward: the library's iterator. -/
namespace Go.Proofs.YtenikoecnfbfoaaDoor
open Go.RowKit Go.Shelf Go.Maps
set_option linter.unusedVariables false
set_option linter.unusedSimpArgs false
attribute [local go_sem] Oper.semAt_some

/-- An object as it lies: its number, its value's parts. -/
structure OB where
  id : Int
  k : Int
  n : Int
  s : ByteArray
  ao : Option Addr
  len : Nat
  cap : Nat
def ObCells (W : World) (b off j : Nat) (x : OB) : Prop := W.cell? ⟨b, off + j * 5, none⟩ = some (.int .i64 x.id) ∧ W.cell? ⟨b, off + j * 5 + 1, none⟩ = some (.int .i64 x.k) ∧ W.cell? ⟨b, off + j * 5 + 2, none⟩ = some (.int .i64 x.n) ∧ W.cell? ⟨b, off + j * 5 + 3, none⟩ = some (.string x.s) ∧ W.cell? ⟨b, off + j * 5 + 4, none⟩ = some (.slice x.ao x.len x.cap)
set_option maxRecDepth 100000 in
set_option maxHeartbeats 2000000 in
theorem backO1_in (F : Fence) (n : Nat) (h7 : F.fn 19) (hro : F.round = none) (hn : 1 ≤ n) (l Bs n₀ b off len cap : Nat) (zs : List OB) (hlen : zs.length = len) (hreach : len ≤ 1000000) (hb : b < n₀) (J Jx : List (Nat × OB) → World → Prop)
    (hY : ∀ pre x W, J pre W → pre.length < len → zs[x.1]? = some x.2 → YieldAt F (n - 1) Tryd.prog l #[.int .i64 (x.1 : Int), .agg #[.int .i64 x.2.id, .int .i64 x.2.k, .int .i64 x.2.n, .string x.2.s, .slice x.2.ao x.2.len x.2.cap]] W fun e W' =>
      (e = .returned (.bool true) ∧ J (pre ++ [x]) W' ∧ KpB n₀ Bs W W') ∨ (e = .returned (.bool false) ∧ Jx (pre ++ [x]) W'))
    (W : World) (hBs : W.cell? ⟨Bs, 0, none⟩ = some (.slice (some ⟨b, off, none⟩) len cap)) (hc : ∀ j x, zs[j]? = some x → ObCells W b off j x) (h0 : J [] W) :
    CallsIn F n Tryd.prog 19 #[.func (.yield l) #[] #[], .pointer (some ⟨Bs, 0, none⟩)] W fun e W' => (∃ v, e = .returned v) ∧
      ((∃ ys : List (Nat × OB), ys.map (·.2) = zs.reverse ∧ J ys W') ∨ (∃ pre, True ∧ Jx pre W')) := by
  refine callsIn_of_wp Tryd.func19 rfl h7 ?_ hro
  simp only [Tryd.ntmps19, List.size_toArray, List.length_cons, List.length_nil, Nat.reduceAdd, Nat.reduceSub, Array.replicate_succ, Array.replicate_zero, List.push_toArray, List.append_toArray, List.nil_append, List.cons_append]
  have hw0 : IntKind.i64.wrap ((len : Int) - 1) = (len : Int) - 1 := by rw [IntKind.wrap_i64]; omega
  gi_wp2
  gi_loopw [3] (fun i wr => ∃ (m : Nat) (pre : List (Nat × OB)), i = .int .i64 ((m : Int) - 1) ∧ m ≤ len ∧ pre.length + m = len ∧ pre.map (·.2) = (zs.drop m).reverse ∧ J pre wr ∧ KpB n₀ Bs W wr)
    (fun i _ => (intOf i + 1).toNat)
  case atStart => exact ⟨len, [], rfl, Nat.le_refl _, by simp, by rw [List.drop_of_length_le (by omega)]; rfl, h0, Below.refl _ _, rfl⟩
  case round =>
    obtain ⟨m, pre, rfl, hm, hpl, hpre, hJs, hnx⟩ := hrel
    have hBs' : wr.cell? ⟨Bs, 0, none⟩ = some (.slice (some ⟨b, off, none⟩) len cap) := by
      rw [← hBs]
      unfold World.cell?
      rw [hnx.2]
    cases m with
    | zero =>
      gi_wp2
      go_end0
      exact ⟨⟨_, rfl⟩, .inl ⟨pre, by rw [hpre, List.drop_zero], hJs⟩⟩
    | succ m =>
      obtain ⟨x, hx⟩ : ∃ x, zs[m]? = some x := ⟨_, List.getElem?_eq_getElem (by omega)⟩
      obtain ⟨fn, tmps, assign, body, hy, hR⟩ := hY pre (m, x) wr hJs (by omega) hx
      dsimp only at hy
      obtain ⟨c0, c1, c2, c3, c4⟩ := hc m x hx
      replace c0 := (hnx.1.cell (p := ⟨b, off + m * 5, none⟩) hb).trans c0
      replace c1 := (hnx.1.cell (p := ⟨b, off + m * 5 + 1, none⟩) hb).trans c1
      replace c2 := (hnx.1.cell (p := ⟨b, off + m * 5 + 2, none⟩) hb).trans c2
      replace c3 := (hnx.1.cell (p := ⟨b, off + m * 5 + 3, none⟩) hb).trans c3
      replace c4 := (hnx.1.cell (p := ⟨b, off + m * 5 + 4, none⟩) hb).trans c4
      have e1 : (((m + 1 : Nat) : Int) - 1) = (m : Int) := by omega
      rw [e1]
      have i0 : (0 : Int) ≤ (m : Int) := by omega
      have i1 : (m : Int) < (len : Int) := by omega
      have i2 : IntKind.i64.wrap ((m : Int) - 1) = (m : Int) - 1 := by rw [IntKind.wrap_i64]; omega
      have hdr : (zs.drop m).reverse = (zs.drop (m + 1)).reverse ++ [x] := by
        have : zs.drop m = x :: zs.drop (m + 1) := by
          rw [List.drop_eq_getElem_cons (by omega)]; congr 1; exact Option.some.inj ((List.getElem?_eq_getElem (by omega)).symm.trans hx)
        rw [this, List.reverse_cons]
      have HDR := Lib.hid hdr
      have HPRE := Lib.hid hpre
      have HX := Lib.hid hx
      clear hdr hpre hx
      gi_wp2
      refine hR.mono ?_
      rintro e W3 (⟨rfl, hJ3, hk3⟩ | ⟨rfl, hJx3⟩)
      · gi_wp2
        go_roundw
        case rel => exact ⟨m, pre ++ [(m, x)], by go_num, by omega, by rw [List.length_append, List.length_singleton]; omega, by rw [List.map_append, HPRE.out, HDR.out]; rfl, hJ3, kpB_t hnx hk3⟩
        case measure => simp [intOf]
      · gi_wp2
        refine bodyPost_ret (results_none rfl _ _ _) rfl ?_
        exact ⟨⟨_, rfl⟩, .inr ⟨_, trivial, hJx3⟩⟩
set_option maxRecDepth 100000 in
set_option maxHeartbeats 1000000 in
theorem backO1_nil_in (F : Fence) (n : Nat) (h7 : F.fn 19) (hro : F.round = none) (l Bs : Nat) (J : List (Nat × OB) → World → Prop) (W : World) (hBs : W.cell? ⟨Bs, 0, none⟩ = some (.slice none 0 0)) (h0 : J [] W) :
    CallsIn F n Tryd.prog 19 #[.func (.yield l) #[] #[], .pointer (some ⟨Bs, 0, none⟩)] W fun e W' => (∃ v, e = .returned v) ∧ J [] W' := by
  refine callsIn_of_wp Tryd.func19 rfl h7 ?_ hro
  simp only [Tryd.ntmps19, List.size_toArray, List.length_cons, List.length_nil, Nat.reduceAdd, Nat.reduceSub, Array.replicate_succ, Array.replicate_zero, List.push_toArray, List.append_toArray, List.nil_append, List.cons_append]
  gi_wp2
  gi_loopw [3] (fun i wr => i = .int .i64 (-1) ∧ J [] wr) (fun _ _ => 0)
  case atStart => exact ⟨rfl, h0⟩
  case round =>
    obtain ⟨rfl, hJs⟩ := hrel
    gi_wp2
    go_end0
    exact ⟨⟨_, rfl⟩, hJs⟩
set_option maxRecDepth 100000 in
set_option maxHeartbeats 1000000 in
theorem backwardO_in (F : Fence) (n : Nat) (h5 : F.fn 8) (hro : F.round = none) (a : Option Addr) (len cap : Nat) (w : World) :
    CallsIn F n Tryd.prog 8 #[.slice a len cap] w fun e w' => e = .returned (.func (.func 19) #[] #[.pointer (some ⟨w.heap.size, 0, none⟩)]) ∧ w' = w.alloc (.cells #[.slice a len cap] 23) := by
  refine callsIn_of_wp Tryd.func8 rfl h5 ?_ hro
  simp only [Tryd.ntmps8, List.size_toArray, List.length_cons, List.length_nil, Nat.reduceAdd, Nat.reduceSub, Array.replicate_succ, Array.replicate_zero, List.push_toArray, List.append_toArray, List.nil_append, List.cons_append]
  gi_wp2
  go_ret
  exact ⟨rfl, rfl⟩
end Go.Proofs.YtenikoecnfbfoaaDoor
/- Layer 8: a directory's value, as it is built in memory. -/
namespace Go.Proofs.YtenikoecnfbfoaaDoor
open Go.RowKit
set_option linter.unusedVariables false
set_option linter.unusedSimpArgs false
open Gr (RT strV refV tupV noneV dirV zeroV)

theorem kid_cons {w : World} {P : Nat → Prop} {t : VT} {ts : List VT} {b j : Nat} {x0 x1 x2 x3 : Value} (hP : P b) (h0 : w.cell? ⟨b, j * 4, none⟩ = some x0) (h1 : w.cell? ⟨b, j * 4 + 1, none⟩ = some x1) (h2 : w.cell? ⟨b, j * 4 + 2, none⟩ = some x2) (h3 : w.cell? ⟨b, j * 4 + 3, none⟩ = some x3)
    (hv : ValIs w P t (.agg #[x0, x1, x2, x3])) (hr : KidsAt w P ts (some ⟨b, 0, none⟩) (j + 1)) : KidsAt w P (t :: ts) (some ⟨b, 0, none⟩) j := by
  unfold KidsAt
  exact ⟨⟨b, 0, x0, x1, x2, x3, rfl, hP, by rw [Nat.zero_add]; exact h0, by rw [Nat.zero_add]; exact h1, by rw [Nat.zero_add]; exact h2, by rw [Nat.zero_add]; exact h3, hv⟩, hr⟩
theorem kid_nil {w : World} {P : Nat → Prop} {ao : Option Addr} {j : Nat} : KidsAt w P [] ao j := by unfold KidsAt; trivial
theorem node_is {w : World} {P : Nat → Prop} {k n : Int} {l : List VT} {b : Nat} (hk : (Lit.int .i64 k).wf = true) (hn : (Lit.int .i64 n).wf = true) (hl : l.length ≤ 1000) (h : KidsAt w P l (some ⟨b, 0, none⟩) 0) :
    ValIs w P (.node k n ⟨#[]⟩ l) (.agg #[.int .i64 k, .int .i64 n, .string ⟨#[]⟩, .slice (some ⟨b, 0, none⟩) l.length l.length]) := by
  unfold ValIs
  exact ⟨some ⟨b, 0, none⟩, l.length, rfl, Nat.le_refl _, by unfold maxLen; omega, sz_max _ (by decide), hk, hn, (fun e => by cases e), h⟩
/-- The cells of a root's triple. -/
def tup12 (r : RT) : Array Value := #[.int .i64 2, .int .i64 0, .string (bytes r.name), .slice none 0 0, .int .i64 2, .int .i64 0, .string (bytes r.typ), .slice none 0 0, .int .i64 5, .int .i64 r.id, .string ⟨#[]⟩, .slice none 0 0]
theorem tup_is {w : World} {P : Nat → Prop} {T : TypeId} {r : RT} {b : Nat} (hb : w.heap[b]? = some (.cells (tup12 r) T (0, 0))) (hP : P b) (h1 : r.name.length ≤ 1000000) (h2 : r.typ.length ≤ 1000000) (h3 : (Lit.int .i64 r.id).wf = true) :
    ValIs w P (tupV r) (.agg #[.int .i64 4, .int .i64 0, .string ⟨#[]⟩, .slice (some ⟨b, 0, none⟩) 3 3]) := by
  have hc : ∀ (j : Nat) u, (tup12 r)[j]? = some u → w.cell? ⟨b, j, none⟩ = some u := fun j u hj => by unfold World.cell?; rw [hb]; exact hj
  have e1 : ∀ l : List UInt8, l.length ≤ 1000000 → (bytes l).size ≤ maxLen := fun l hl => by rw [bytes_size]; unfold maxLen; omega
  refine node_is (l := [strV r.name, strV r.typ, refV r.id]) (by decide) (by decide) (by simp) ?_
  refine kid_cons hP (hc 0 _ rfl) (hc 1 _ rfl) (hc 2 _ rfl) (hc 3 _ rfl) (leaf_is w P 2 0 _ (by decide) (by decide) (e1 _ h1)) ?_
  refine kid_cons hP (hc 4 _ rfl) (hc 5 _ rfl) (hc 6 _ rfl) (hc 7 _ rfl) (leaf_is w P 2 0 _ (by decide) (by decide) (e1 _ h2)) ?_
  exact kid_cons hP (hc 8 _ rfl) (hc 9 _ rfl) (hc 10 _ rfl) (hc 11 _ rfl) (leaf_is w P 5 _ _ (by decide) h3 (sz_max _ (by decide))) kid_nil
/-- One root more ahead of a directory. -/
theorem dir_is {w : World} {P : Nat → Prop} {T T' : TypeId} {r : RT} {l : List RT} {b c cap n : Nat} {num : Int} {ao : Option Addr} (hb : w.heap[b]? = some (.cells (tup12 r) T (0, 0)))
    (hc : w.heap[c]? = some (.cells #[.int .i64 4, .int .i64 0, .string ⟨#[]⟩, .slice (some ⟨b, 0, none⟩) 3 3, .int .i64 3, .int .i64 num, .string ⟨#[]⟩, .slice ao n cap] T' (0, 0))) (hPb : P b) (hPc : P c)
    (h1 : r.name.length ≤ 1000000) (h2 : r.typ.length ≤ 1000000) (h3 : (Lit.int .i64 r.id).wf = true) (hd : ValIs w P (dirV l) (.agg #[.int .i64 3, .int .i64 num, .string ⟨#[]⟩, .slice ao n cap])) :
    ValIs w P (dirV (r :: l)) (.agg #[.int .i64 3, .int .i64 1, .string ⟨#[]⟩, .slice (some ⟨c, 0, none⟩) 2 2]) := by
  have hcc : ∀ (j : Nat) u, (#[.int .i64 4, .int .i64 0, .string ⟨#[]⟩, .slice (some ⟨b, 0, none⟩) 3 3, .int .i64 3, .int .i64 num, .string ⟨#[]⟩, .slice ao n cap] : Array Value)[j]? = some u → w.cell? ⟨c, j, none⟩ = some u := fun j u hj => by unfold World.cell?; rw [hc]; exact hj
  refine node_is (l := [tupV r, dirV l]) (by decide) (by decide) (by simp) ?_
  refine kid_cons hPc (hcc 0 _ rfl) (hcc 1 _ rfl) (hcc 2 _ rfl) (hcc 3 _ rfl) (tup_is hb hPb h1 h2 h3) ?_
  exact kid_cons hPc (hcc 4 _ rfl) (hcc 5 _ rfl) (hcc 6 _ rfl) (hcc 7 _ rfl) hd kid_nil
/-- A directory's own parts. -/
theorem dir_form (l : List RT) : (dirV l).kind = 3 ∧ (dirV l).text = ⟨#[]⟩ ∧ ((dirV l).num = 0 ∨ (dirV l).num = 1) := by
  cases l with
  | nil => exact ⟨rfl, rfl, .inl rfl⟩
  | cons r l => exact ⟨rfl, rfl, .inr rfl⟩
end Go.Proofs.YtenikoecnfbfoaaDoor
/- Layer 8: the program's Dir. -/
namespace Go.Proofs.YtenikoecnfbfoaaDoor
open Go.RowKit Go.Shelf Go.Maps
set_option linter.unusedVariables false
set_option linter.unusedSimpArgs false
open Gr (RT strV refV tupV noneV dirV zeroV dirT sortO)
attribute [local go_sem] Oper.semAt_some

def encR (x : Nat × RT) : Array Value := #[.int .i64 (x.1 : Int), .agg #[.string (bytes x.2.name), .string (bytes x.2.typ), .int .i64 x.2.id]]
theorem backR_stops (F : Fence) (n : Nat) (h7 : F.fn 29) (hro : F.round = none) (hn : 1 ≤ n) (Bs n₀ : Nat) (sv : Value) (zs : List RT) (hreach : zs.length ≤ 1000000) (w : World) (hBs : Bs < w.heap.size) (hn₀ : n₀ ≤ w.heap.size)
    (hc : w.cell? ⟨Bs, 0, none⟩ = some sv) (hI : RtAt w sv zs) (hsv : ∀ a n c, sv = .slice (some a) n c → a.block < n₀) (hnil : ∀ n c, sv = .slice none n c → c = 0) :
    SeqStopsK F n Tryd.prog 29 #[.pointer (some ⟨Bs, 0, none⟩)] encR (KpB n₀ Bs) (fun ys => ys.map (·.2) = zs.reverse) (fun _ => True) zs.length w := fun l J Jx W hW _ _ hY h0 => by
  have hc' := (hW.cell (p := ⟨Bs, 0, none⟩) hBs).trans hc
  have hI2 := hI.below hW
  obtain ⟨ao, cap, rfl, h1, h2, h3, h4, h5⟩ := hI2
  cases ao with
  | none =>
    have hcp := h3 rfl
    have hz : zs = [] := List.length_eq_zero_iff.1 (by omega)
    subst hz
    subst hcp
    exact (backR1_nil_in F n h7 hro l Bs J W hc' h0).mono fun e W' ⟨he, hj⟩ => ⟨he, .inl ⟨_, rfl, hj⟩⟩
  | some a =>
    obtain ⟨b, off, s⟩ := a
    obtain ⟨rfl, hb⟩ := h4 b off s rfl
    refine backR1_in F n h7 hro hn l Bs n₀ b off zs.length cap zs rfl hreach (hsv ⟨b, off, none⟩ _ _ rfl) J Jx hY W hc' (fun j x hj => ?_) h0
    obtain ⟨g1, g2, g3⟩ := rtcells_get hj
    obtain ⟨b1, o1, e1, c1⟩ := h5 _ _ g1
    obtain ⟨b2, o2, e2, c2⟩ := h5 _ _ g2
    obtain ⟨b3, o3, e3, c3⟩ := h5 _ _ g3
    cases e1
    cases e2
    cases e3
    exact ⟨c1, c2, c3⟩
def DrP (W : World) (B5 b : Nat) : Prop := B5 + 1 < b ∧ ∃ cs T fr, W.heap[b]? = some (.cells cs T fr)
/-- A root that memory can hold. -/
def Gd (r : RT) : Prop := r.name.length ≤ 1000000 ∧ r.typ.length ≤ 1000000 ∧ (Lit.int .i64 r.id).wf = true
/-- What Dir's loop has built, and what it keeps. -/
def DrI (w0 : World) (sv : Value) (B5 : Nat) (pre : List (Nat × RT)) (W : World) : Prop :=
  ∃ (num : Int) (ao : Option Addr) (n cap : Nat), W.heap[B5]? = some (.cells #[.int .i64 3, .int .i64 num, .string ⟨#[]⟩, .slice ao n cap] 26 (0, 0)) ∧ W.heap[B5 + 1]? = some (.cells #[sv] 29 (0, 0)) ∧
    ((∀ y ∈ pre, Gd y.2) → ValIs W (DrP W B5) (dirV (pre.map (·.2)).reverse) (.agg #[.int .i64 3, .int .i64 num, .string ⟨#[]⟩, .slice ao n cap])) ∧ Below B5 w0 W
theorem drp_keep {W W' : World} {B5 : Nat} {t : VT} {v : Value} (h3 : ValIs W (DrP W B5) t v) (hk : ∀ b cs T fr, B5 + 1 < b → W.heap[b]? = some (.cells cs T fr) → W'.heap[b]? = some (.cells cs T fr)) : ValIs W' (DrP W' B5) t v := by
  refine h3.keep (fun b ⟨hb1, cs, T, fr, hb2⟩ => ⟨hb1, cs, T, fr, hk b cs T fr hb1 hb2⟩) (fun p hp => ?_)
  obtain ⟨hb1, cs, T, fr, hb2⟩ := hp
  unfold World.cell?
  rw [hk p.block cs T fr hb1 hb2, hb2]
theorem dr_keep {w0 W W' : World} {sv : Value} {B5 : Nat} {pre : List (Nat × RT)} (h : DrI w0 sv B5 pre W) (hk : ∀ b cs T fr, B5 ≤ b → W.heap[b]? = some (.cells cs T fr) → W'.heap[b]? = some (.cells cs T fr)) (hb : Below B5 W W') : DrI w0 sv B5 pre W' := by
  obtain ⟨num, ao, n, cap, h1, h2, h3, h4⟩ := h
  exact ⟨num, ao, n, cap, hk _ _ _ _ (Nat.le_refl _) h1, hk _ _ _ _ (by omega) h2, fun hg => drp_keep (h3 hg) (fun b cs T fr hb => hk b cs T fr (by omega)), h4.trans hb⟩
theorem dr_chg {w0 W W' : World} {sv : Value} {B5 : Nat} {pre : List (Nat × RT)} {F : List Nat} (h : DrI w0 sv B5 pre W) (hc : Chg F W W') (hF : ∀ k ∈ F, W.heap.size ≤ k) : DrI w0 sv B5 pre W' := by
  have l1 : B5 < W.heap.size := by obtain ⟨_, _, _, _, h1, _⟩ := h; exact lt_of_block h1
  exact dr_keep h (fun b cs T fr _ hb => (hc.block b (lt_of_block hb) (fun hm => by have := hF _ hm; have := lt_of_block hb; omega)).trans hb) (hc.below (by omega) (fun k hk => by have := hF k hk; omega))
theorem dr_own {w0 A B : World} {sv : Value} {B5 M : Nat} {pre : List (Nat × RT)} {row : Option Nat} (hM : B5 ≤ M) (h : DrI w0 sv B5 pre A) (hg : A.grownBy B row) (hr : ∀ r, row = some r → M ≤ r ∧ ∃ o : Obj, A.heap[r]? = some o ∧ o.isCells = false) : DrI w0 sv B5 pre B := by
  have l1 : B5 < A.heap.size := by obtain ⟨_, _, _, _, h1, _⟩ := h; exact lt_of_block h1
  refine dr_keep h (fun b cs T fr _ hb => (hg.block b (lt_of_block hb) (fun e => ?_)).trans hb) ?_
  · obtain ⟨_, o, ho, hc⟩ := hr b e.symm
    rw [hb] at ho
    cases ho
    cases hc
  · exact ((Chg.refl row.toList A).grown hg (fun k hk => .inl (by simp [hk]))).below (by omega) (fun k hk => by have := (hr k (by simpa using hk)).1; omega)
/-- One root more. -/
theorem dr_next {w0 W W' : World} {sv : Value} {B5 : Nat} {pre : List (Nat × RT)} {x : Nat × RT} {num : Int} {ao : Option Addr} {n cap : Nat} (h : DrI w0 sv B5 pre W) (hB : W.heap[B5]? = some (.cells #[.int .i64 3, .int .i64 num, .string ⟨#[]⟩, .slice ao n cap] 26 (0, 0)))
    (hc : Chg [B5] W W') (h5 : W'.heap[B5]? = some (.cells #[.int .i64 3, .int .i64 1, .string ⟨#[]⟩, .slice (some ⟨W.heap.size + 1 + 1, 0, none⟩) 2 2] 26 (0, 0)))
    (h12 : W'.heap[W.heap.size]? = some (.cells (tup12 x.2) 26 (0, 0)))
    (h8 : W'.heap[W.heap.size + 1 + 1]? = some (.cells #[.int .i64 4, .int .i64 0, .string ⟨#[]⟩, .slice (some ⟨W.heap.size, 0, none⟩) 3 3, .int .i64 3, .int .i64 num, .string ⟨#[]⟩, .slice ao n cap] 26 (0, 0))) : DrI w0 sv B5 (pre ++ [x]) W' := by
  obtain ⟨num', ao', n', cap', h1, h2, h3, h4⟩ := h
  rw [hB] at h1
  cases h1
  have l2 := lt_of_block h2
  refine ⟨1, _, 2, 2, h5, (hc.block _ l2 (by simp)).trans h2, fun hg => ?_, h4.trans (hc.below (by omega) (by simp))⟩
  have hg1 : ∀ y ∈ pre, Gd y.2 := fun y hy => hg y (List.mem_append_left _ hy)
  obtain ⟨g1, g2, g3⟩ := hg x (List.mem_append_right _ (List.mem_singleton.2 rfl))
  rw [List.map_append, List.map_cons, List.map_nil, List.reverse_append, List.reverse_singleton, List.singleton_append]
  refine dir_is h12 h8 ⟨by omega, _, _, _, h12⟩ ⟨by omega, _, _, _, h8⟩ g1 g2 g3 (drp_keep (h3 hg1) (fun b cs T fr hb hbk => (hc.block b (lt_of_block hbk) (by simp; omega)).trans hbk))
theorem keepsFrom_chg {F : List Nat} {B : Nat} {W W' : World} (hc : Chg F W W') (hF : ∀ k ∈ F, k < B) : KeepsFrom B W W' := ⟨hc.size, fun k o hB hk ho => (hc.block k (Array.getElem?_eq_some_iff.1 hk).1 (fun hm => by have := hF k hm; omega)).trans hk⟩
theorem later3 {W : World} {B5 : Nat} {a b c d : Value} {t : TypeId} (h : W.heap[B5]? = some (.cells #[a, b, c, d] t (0, 0))) (o1 o2 o3 : Obj) : (((W.alloc o1).alloc o2).alloc o3).heap[B5]? = some (.cells #[a, b, c, d] t (0, 0)) := by
  have h1 := lt_of_block h
  rw [Below.heap_alloc _ _ _ (by simp; omega), Below.heap_alloc _ _ _ (by simp; omega), Below.heap_alloc _ _ _ h1, h]
theorem four_last {W : World} {B5 : Nat} {a b c d y0 y1 y2 y3 : Value} {t : TypeId} (h : W.heap[B5]? = some (.cells #[a, b, c, d] t (0, 0))) (o1 o2 o3 : Obj) :
    (((((((W.alloc o1).alloc o2).alloc o3).setCell ⟨B5, 0, none⟩ y0).setCell ⟨B5, 1, none⟩ y1).setCell ⟨B5, 2, none⟩ y2).setCell ⟨B5, 3, none⟩ y3).heap[B5]? = some (.cells #[y0, y1, y2, y3] t (0, 0)) ∧
    Chg [B5] W (((((((W.alloc o1).alloc o2).alloc o3).setCell ⟨B5, 0, none⟩ y0).setCell ⟨B5, 1, none⟩ y1).setCell ⟨B5, 2, none⟩ y2).setCell ⟨B5, 3, none⟩ y3) ∧
    Chg [B5] (((W.alloc o1).alloc o2).alloc o3) (((((((W.alloc o1).alloc o2).alloc o3).setCell ⟨B5, 0, none⟩ y0).setCell ⟨B5, 1, none⟩ y1).setCell ⟨B5, 2, none⟩ y2).setCell ⟨B5, 3, none⟩ y3) :=
  ⟨four_stored (later3 h o1 o2 o3), four_stores ((((Chg.refl [B5] W).alloc o1).alloc o2).alloc o3) (.inl (by simp)) _ _ _ _, four_stores (Chg.refl [B5] _) (.inl (by simp)) _ _ _ _⟩
/-- Dir, ended. -/
def DirEnd (w : World) (r : VT × Int) (e : Ending) (w' : World) : Prop :=
  ∃ v, e = .returned (.tuple #[v, .int .i64 r.2]) ∧ ValIs w' (fun b => w.heap.size ≤ b ∧ b < w'.heap.size) r.1 v ∧ Below w.heap.size w w'
set_option maxRecDepth 100000 in
set_option maxHeartbeats 4000000 in
theorem dir_some (w : World) (v : Value) (l s : List RT) (h : RtAt w v l) (hl : l.length ≤ 100) (hs : sortO l [] = some s) (hsz : ∀ r ∈ l, Gd r)
    (hS : ∀ W, Below w.heap.size w W → Calls Tryd.prog 10 #[v] W (SrtEnd W l)) : Calls Tryd.prog 7 #[v] w (DirEnd w (dirT l)) := by
  obtain ⟨ao, cap, rfl, _⟩ := id h
  have HS := Lib.hid hS
  have hl1 : (l.length : Int) ≤ 100 := by omega
  clear h hS
  refine (callsIn_wide (n := 6)).1 ?_
  refine callsIn_of_wp_marks Tryd.func7 rfl trivial ?_ rfl
  simp only [Tryd.ntmps7, List.size_toArray, List.length_cons, List.length_nil, Nat.reduceAdd, Nat.reduceSub, Array.replicate_succ, Array.replicate_zero, List.push_toArray, List.append_toArray, List.nil_append, List.cons_append]
  gi_wp2_with (refine ⟨trivial, ?_⟩; gi_at_call 10; refine (callsIn_wide.2 (HS.out _ ((Below.refl _ _).alloc (Nat.le_refl _) _))).mono ?_; rintro e w2 ⟨v2, rfl, hr, hn, hb⟩; have hr2 := hr s hs; obtain ⟨a2, c2, rfl, _⟩ := hr2.at_; have HR2 := Lib.hid hr2; have HB2 := Lib.hid hb; clear hr hn hb hr2; simp only [hs, Option.isSome_some])
  have HSS := Lib.hid hs
  clear hs
  gi_wp2_with (refine ⟨trivial, ?_⟩; gi_at_call 18; refine (backwardR_in Fence.wide _ trivial rfl _ _ _ _).mono ?_; rintro e w' ⟨rfl, rfl⟩)
  have h0 : DrI w2 (.slice a2 s.length c2) w2.heap.size [] ((w2.alloc (.cells #[.int .i64 3, .int .i64 0, .string ⟨#[]⟩, .slice none 0 0] 26)).alloc (.cells #[.slice a2 s.length c2] 29)) := by
    have e1 : ((w2.alloc (.cells #[.int .i64 3, .int .i64 0, .string ⟨#[]⟩, .slice none 0 0] 26)).alloc (.cells #[.slice a2 s.length c2] 29)).heap[w2.heap.size]? = some (.cells #[.int .i64 3, .int .i64 0, .string ⟨#[]⟩, .slice none 0 0] 26 (0, 0)) := (Below.heap_alloc _ _ _ (by simp)).trans (World.alloc_heap_new _ _)
    have e2 := World.alloc_heap_new (w2.alloc (.cells #[.int .i64 3, .int .i64 0, .string ⟨#[]⟩, .slice none 0 0] 26)) (.cells #[.slice a2 s.length c2] 29)
    rw [World.size_alloc] at e2
    exact ⟨0, none, 0, 0, e1, e2, fun _ => leaf_is _ _ 3 0 _ (by decide) (by decide) (sz_max _ (by decide)), ((Below.refl _ _).alloc (Nat.le_refl _) _).alloc (by simp) _⟩
  have hs0 : ((w2.alloc (.cells #[.int .i64 3, .int .i64 0, .string ⟨#[]⟩, .slice none 0 0] 26)).alloc (.cells #[.slice a2 s.length c2] 29)).heap.size = w2.heap.size + 1 + 1 := by simp
  generalize (w2.alloc (.cells #[.int .i64 3, .int .i64 0, .string ⟨#[]⟩, .slice none 0 0] 26)).alloc (.cells #[.slice a2 s.length c2] 29) = W0 at h0 hs0 ⊢
  have H0 := Lib.hid h0
  have hsl : s.length ≤ 100 := by
    have := (Gr.sortO_some .nil HSS.out).2.1.length_eq
    rw [List.append_nil] at this
    omega
  have hb0 : Below w2.heap.size w2 W0 := by obtain ⟨_, _, _, _, _, _, _, h⟩ := h0; exact h
  have hW1 : W0.cell? ⟨w2.heap.size + 1, 0, none⟩ = some (.slice a2 s.length c2) := by
    obtain ⟨_, _, _, _, _, h, _⟩ := h0
    simp [World.cell?, h]
  have HR3 := Lib.hid (HR2.out.at_.below hb0)
  refine wpIn_rangeFunc_ownH rfl (by omega) (gf := 29) (lb := #[.pointer (some ⟨w2.heap.size + 1, 0, none⟩)]) rfl trivial (enters_of Tryd.func29 (by kernel_rfl) rfl)
    (backR_stops Fence.wide _ trivial rfl (by omega) (w2.heap.size + 1) w2.heap.size (.slice a2 s.length c2) s (by omega) W0 (by omega) (by omega) hW1 HR3.out (fun a n c e => by cases e; exact HR2.out.1.lt rfl) (fun n c e => by
      cases e
      obtain ⟨a', c', e', _, _, h3, _⟩ := HR2.out.at_
      cases e'
      exact h3 rfl)) kpB_t (kpB_b (by omega) (by omega)) (Below.refl _ _) (fun _ => rfl)
    (fun pre W => DrI w2 (.slice a2 s.length c2) w2.heap.size pre W)
    (fun _ _ _ => False)
    (fun pre A B row hs hg hr => dr_own (by omega) hs hg hr)
    (fun _ _ _ _ _ hs _ _ => hs)
    h0
    (fun x a' W => ∃ Bx, w2.heap.size + 1 < Bx ∧ W.heap[Bx]? = some (.cells #[.string (bytes x.2.name), .string (bytes x.2.typ), .int .i64 x.2.id] 36 (0, 0)) ∧ a' = { tmps := #[.slice a2 s.length c2, undef, .pointer (some ⟨w.heap.size, 0, none⟩), .int .i64 0, .bool true, .pointer (some ⟨w2.heap.size, 0, none⟩), undef, .pointer (some ⟨Bx, 0, none⟩), undef, undef, .slice ao l.length cap, .int .i64 (l.length : Int), .bool (decide (100 < (l.length : Int))), undef, .tuple #[.slice a2 s.length c2, .bool true], .slice ao l.length cap, .tuple #[.slice a2 s.length c2, .bool true], .slice a2 s.length c2, .bool true, .bool true, .bool false, undef, .agg #[.int .i64 3, .int .i64 0, .string ⟨#[]⟩, .slice none 0 0], .slice a2 s.length c2, .func (.func 29) #[] #[.pointer (some ⟨w2.heap.size + 1, 0, none⟩)], .int .i64 (x.1 : Int), .agg #[.string (bytes x.2.name), .string (bytes x.2.typ), .int .i64 x.2.id], undef, undef, undef, undef, undef, undef, undef, undef, undef, undef, undef, undef, undef, undef, undef, undef, undef, undef, undef, undef, undef, undef], defers := [] })
    (fun x a' _ X Y row hs hg hr => by obtain ⟨Bx, h1, h2, h3⟩ := hs; exact ⟨Bx, h1, (hg.block Bx (lt_of_block h2) (fun e => by obtain ⟨_, o, ho, hc⟩ := hr _ e.symm; rw [h2] at ho; cases ho; cases hc)).trans h2, h3⟩)
    ?assign ?body ?done ?stop
  case assign =>
    rintro l pre x W K hI hK
    dsimp only [encR]
    have hW : w2.heap.size + 1 < W.heap.size := by obtain ⟨_, _, _, _, _, h2, _⟩ := hI; exact lt_of_block h2
    gi_wp2
    exact hK _ _ ((KeepsOthers.alloc _ _).from _) ⟨(Below.refl _ W).alloc (by omega) _, Below.heap_alloc _ _ _ (by omega)⟩ (dr_chg hI ((Chg.refl [] W).alloc _) (by simp)) ⟨W.heap.size, hW, World.alloc_heap_new _ _, rfl⟩
  case body =>
    rintro l pre x a' W hl ⟨r, hr⟩ hI ⟨Bx, hBx, bX, rfl⟩ hlt
    obtain ⟨num, ao', n', cap', hB5, hB6, _, _⟩ := id hI
    have HI := Lib.hid hI
    have HB5 := Lib.hid hB5
    have HB6 := Lib.hid hB6
    obtain ⟨q0, q1, q2, q3, q4⟩ := hdr4_cells hB5
    have x0 : W.cell? ⟨Bx, 0, none⟩ = some (.string (bytes x.2.name)) := by simp [World.cell?, bX]
    have x1 : W.cell? ⟨Bx, 1, none⟩ = some (.string (bytes x.2.typ)) := by simp [World.cell?, bX]
    have x2 : W.cell? ⟨Bx, 2, none⟩ = some (.int .i64 x.2.id) := by simp [World.cell?, bX]
    have hlt5 : w2.heap.size < W.heap.size := lt_of_block hB5
    have p0 := fun o1 o2 o3 => (hdr4_cells (later3 hB5 o1 o2 o3)).1
    have p1 := fun o1 o2 o3 => (hdr4_cells (later3 hB5 o1 o2 o3)).2.1
    have p2 := fun o1 o2 o3 => (hdr4_cells (later3 hB5 o1 o2 o3)).2.2.1
    have p3 := fun o1 o2 o3 => (hdr4_cells (later3 hB5 o1 o2 o3)).2.2.2.1
    have p4 := fun o1 o2 o3 => (hdr4_cells (later3 hB5 o1 o2 o3)).2.2.2.2
    clear hI hB5 hB6 bX
    gi_wp2
    obtain ⟨f1, f2, f3⟩ := four_last (y0 := .int .i64 3) (y1 := .int .i64 1) (y2 := .string ⟨#[]⟩) (y3 := .slice (some ⟨W.heap.size + 1 + 1, 0, none⟩) 2 2) HB5.out
      (.cells #[.int .i64 2, .int .i64 0, .string (bytes x.2.name), .slice none 0 0, .int .i64 2, .int .i64 0, .string (bytes x.2.typ), .slice none 0 0, .int .i64 5, .int .i64 x.2.id, .string ⟨#[]⟩, .slice none 0 0] 26)
      (.cells #[.int .i64 4, .int .i64 0, .string ⟨#[]⟩, .slice (some ⟨W.heap.size, 0, none⟩) 3 3] 26)
      (.cells #[.int .i64 4, .int .i64 0, .string ⟨#[]⟩, .slice (some ⟨W.heap.size, 0, none⟩) 3 3, .int .i64 3, .int .i64 num, .string ⟨#[]⟩, .slice ao' n' cap'] 26)
    have g12 : (((W.alloc (.cells #[.int .i64 2, .int .i64 0, .string (bytes x.2.name), .slice none 0 0, .int .i64 2, .int .i64 0, .string (bytes x.2.typ), .slice none 0 0, .int .i64 5, .int .i64 x.2.id, .string ⟨#[]⟩, .slice none 0 0] 26)).alloc (.cells #[.int .i64 4, .int .i64 0, .string ⟨#[]⟩, .slice (some ⟨W.heap.size, 0, none⟩) 3 3] 26)).alloc (.cells #[.int .i64 4, .int .i64 0, .string ⟨#[]⟩, .slice (some ⟨W.heap.size, 0, none⟩) 3 3, .int .i64 3, .int .i64 num, .string ⟨#[]⟩, .slice ao' n' cap'] 26)).heap[W.heap.size]? = some (.cells (tup12 x.2) 26 (0, 0)) := by
      rw [Below.heap_alloc _ _ _ (by simp; omega), Below.heap_alloc _ _ _ (by simp)]; exact World.alloc_heap_new _ _
    have g8 := World.alloc_heap_new ((W.alloc (.cells #[.int .i64 2, .int .i64 0, .string (bytes x.2.name), .slice none 0 0, .int .i64 2, .int .i64 0, .string (bytes x.2.typ), .slice none 0 0, .int .i64 5, .int .i64 x.2.id, .string ⟨#[]⟩, .slice none 0 0] 26)).alloc (.cells #[.int .i64 4, .int .i64 0, .string ⟨#[]⟩, .slice (some ⟨W.heap.size, 0, none⟩) 3 3] 26)) (.cells #[.int .i64 4, .int .i64 0, .string ⟨#[]⟩, .slice (some ⟨W.heap.size, 0, none⟩) 3 3, .int .i64 3, .int .i64 num, .string ⟨#[]⟩, .slice ao' n' cap'] 26)
    rw [World.size_alloc, World.size_alloc] at g8
    have e12 := (f3.block W.heap.size (by simp; omega) (by simp; omega)).trans g12
    have e8 := (f3.block (W.heap.size + 1 + 1) (by simp) (by simp; omega)).trans g8
    clear g12 g8 f3
    generalize (((((((W.alloc _).alloc _).alloc _).setCell _ _).setCell _ _).setCell _ _).setCell _ _) = W' at f1 f2 e12 e8 ⊢
    exact ⟨keepsFrom_chg f2 (by simp; omega), ⟨f2.below (by omega) (by simp), f2.block _ (lt_of_block HB6.out) (by simp)⟩, dr_next HI.out HB5.out f2 f1 e12 e8⟩
  case done =>
    rintro D ys W hD hys hI hK
    have HI := Lib.hid hI
    obtain ⟨num, ao', n', cap', hB5, hB6, hval, hbw⟩ := id hI
    have HB5 := Lib.hid hB5
    have HKD := Lib.hid hK
    have HD := Lib.hid hD
    have hgd : ∀ y ∈ ys, Gd y.2 := fun y hy => by
      have h1 : y.2 ∈ s := by
        have : y.2 ∈ ys.map (·.2) := List.mem_map.2 ⟨y, hy, rfl⟩
        rw [hys] at this
        exact List.mem_reverse.1 this
      have h2 := (Gr.sortO_some .nil HSS.out).2.1.mem_iff.1 h1
      rw [List.append_nil] at h2
      exact hsz _ h2
    have hv := hval hgd
    rw [hys, List.reverse_reverse] at hv
    have HV := Lib.hid hv
    have HBW := Lib.hid hbw
    obtain ⟨q0, q1, q2, q3, q4⟩ := hdr4_cells hB5
    have HCK := Lib.hid (check_any (dirV s) _ W (DrP W w2.heap.size) hv (fun b hb => by obtain ⟨_, cs, T, fr, h⟩ := hb; exact lt_of_block h))
    clear hI hB5 hB6 hval hv hbw hK hD hys hgd
    by_cases hck : encErr (dirV s) = 0
    · rw [hck] at HCK
      gi_wp2_with (refine ⟨trivial, ?_⟩; gi_at_call 9; refine (callsIn_wide.2 HCK.out).mono ?_; rintro e w5 ⟨rfl, hb5⟩; have HB5w := Lib.hid hb5; have z5 := (hb5.block w2.heap.size (lt_of_block HB5.out)).trans HB5.out; have zR := (hb5.block w.heap.size (by have := HBW.out.size; have := HB2.out.size; simp at this; omega)).trans ((HBW.out.block w.heap.size (by have := HB2.out.size; simp at this; omega)).trans ((HB2.out.block w.heap.size (by simp)).trans (World.alloc_heap_new w _))); obtain ⟨q0, q1, q2, q3, q4⟩ := hdr4_cells z5; obtain ⟨r0, r1, r2, r3, r4⟩ := hdr4_cells zR; have ZR := Lib.hid zR; clear hb5 z5 zR)
      obtain ⟨z1, z2⟩ := four_ret (y0 := .int .i64 3) (y1 := .int .i64 num) (y2 := .string ⟨#[]⟩) (y3 := .slice ao' n' cap') ZR.out
      have hZZ := z2
      generalize ((((World.setCell _ _ _).setCell _ _).setCell _ _).setCell _ _) = wz at z1 z2 hZZ ⊢
      have hDW := (Array.getElem?_eq_some_iff.1 HKD.out).1
      have hs5 := HB5w.out.size
      have hRl : w.heap.size < w2.heap.size := by have := HB2.out.size; simp at this; omega
      have hBl := lt_of_block HB5.out
      have hkd : wz.heap[D]? = some (.deferred (some [])) := (z2.block D (Nat.lt_of_lt_of_le hDW hs5) (by have := HD.out; simp; omega)).trans ((HB5w.out.block D hDW).trans HKD.out)
      have hcd : Chg [D] wz (wz.putObj D (.deferred none)) := (Chg.refl _ wz).grown (grownBy_putObj' wz D _) (fun k hk => by cases hk; exact .inl (by simp))
      have zd := (hcd.block _ (lt_of_block z1) (by have := HD.out; simp; omega)).trans z1
      refine ⟨by simp, .inl ⟨_, _, rfl, run_takeDeferred hkd, ?_⟩⟩
      obtain ⟨y0, y1, y2, y3, _⟩ := hdr4_cells zd
      refine ⟨.tuple #[.agg #[.int .i64 3, .int .i64 num, .string ⟨#[]⟩, .slice ao' n' cap'], .int .i64 0], by simp [results, Tryd.results7, go_sem, y0, y1, y2, y3], ?_⟩
      have hbe : Below w.heap.size w (wz.putObj D (.deferred none)) := by
        have h1 : Below w.heap.size w w2 := ((Below.refl _ _).alloc (Nat.le_refl _) _).trans (HB2.out.mono (by simp))
        have h2 := h1.trans ((HBW.out.mono (by omega)).trans (HB5w.out.mono (by omega)))
        exact (h2.trans (z2.below h2.size (by simp))).trans (hcd.below (Nat.le_trans h2.size z2.size) (by have := HD.out; simp; omega))
      have hdt : dirT l = (dirV s, 0) := by unfold dirT; rw [if_neg (by omega), HSS.out]; simp only; rw [if_pos hck]
      rw [hdt]
      refine ⟨_, rfl, HV.out.keep (fun b hb => ?_) (fun p hp => ?_), hbe⟩
      · obtain ⟨h1, cs, T, fr, h2⟩ := hb
        have := lt_of_block h2
        exact ⟨by omega, Nat.lt_of_lt_of_le this (Nat.le_trans hs5 (Nat.le_trans z2.size hcd.size))⟩
      · obtain ⟨h1, cs, T, fr, h2⟩ := hp
        have hl2 := lt_of_block h2
        have hne : p.block ≠ D := fun e => by rw [e, HKD.out] at h2; cases h2
        unfold World.cell?
        rw [hcd.block _ (Nat.lt_of_lt_of_le hl2 (Nat.le_trans hs5 z2.size)) (by simpa using hne), z2.block _ (Nat.lt_of_lt_of_le hl2 hs5) (by simp; omega), HB5w.out.block _ hl2]
    · obtain ⟨er, her⟩ : ∃ er, encErr (dirV s) = er := ⟨_, rfl⟩
      rw [her] at hck HCK
      have k1 : (er == 0) = false := by simpa using hck
      have k2 : (er != 0) = true := by simpa using hck
      gi_wp2_with (refine ⟨trivial, ?_⟩; gi_at_call 9; refine (callsIn_wide.2 HCK.out).mono ?_; rintro e w5 ⟨rfl, hb5⟩; have HB5w := Lib.hid hb5; have z5 := (hb5.block w2.heap.size (lt_of_block HB5.out)).trans HB5.out; have zR := (hb5.block w.heap.size (by have := HBW.out.size; have := HB2.out.size; simp at this; omega)).trans ((HBW.out.block w.heap.size (by have := HB2.out.size; simp at this; omega)).trans ((HB2.out.block w.heap.size (by simp)).trans (World.alloc_heap_new w _))); obtain ⟨q0, q1, q2, q3, q4⟩ := hdr4_cells z5; obtain ⟨r0, r1, r2, r3, r4⟩ := hdr4_cells zR; have ZR := Lib.hid zR; clear hb5 z5 zR)
      obtain ⟨z1, z2⟩ := four_ret (y0 := .int .i64 0) (y1 := .int .i64 0) (y2 := .string ⟨#[]⟩) (y3 := .slice none 0 0) ZR.out
      have hZZ := z2
      generalize ((((World.setCell _ _ _).setCell _ _).setCell _ _).setCell _ _) = wz at z1 z2 hZZ ⊢
      have hDW := (Array.getElem?_eq_some_iff.1 HKD.out).1
      have hs5 := HB5w.out.size
      have hRl : w.heap.size < w2.heap.size := by have := HB2.out.size; simp at this; omega
      have hBl := lt_of_block HB5.out
      have hkd : wz.heap[D]? = some (.deferred (some [])) := (z2.block D (Nat.lt_of_lt_of_le hDW hs5) (by have := HD.out; simp; omega)).trans ((HB5w.out.block D hDW).trans HKD.out)
      have hcd : Chg [D] wz (wz.putObj D (.deferred none)) := (Chg.refl _ wz).grown (grownBy_putObj' wz D _) (fun k hk => by cases hk; exact .inl (by simp))
      have zd := (hcd.block _ (lt_of_block z1) (by have := HD.out; simp; omega)).trans z1
      refine ⟨by simp, .inl ⟨_, _, rfl, run_takeDeferred hkd, ?_⟩⟩
      obtain ⟨y0, y1, y2, y3, _⟩ := hdr4_cells zd
      refine ⟨.tuple #[.agg #[.int .i64 0, .int .i64 0, .string ⟨#[]⟩, .slice none 0 0], .int .i64 er], by simp [results, Tryd.results7, go_sem, y0, y1, y2, y3], ?_⟩
      have hbe : Below w.heap.size w (wz.putObj D (.deferred none)) := by
        have h1 : Below w.heap.size w w2 := ((Below.refl _ _).alloc (Nat.le_refl _) _).trans (HB2.out.mono (by simp))
        have h2 := h1.trans ((HBW.out.mono (by omega)).trans (HB5w.out.mono (by omega)))
        exact (h2.trans (z2.below h2.size (by simp))).trans (hcd.below (Nat.le_trans h2.size z2.size) (by have := HD.out; simp; omega))
      have hdt : dirT l = (zeroV, er) := by unfold dirT; rw [if_neg (by omega), HSS.out]; simp only; rw [her, if_neg hck]
      rw [hdt]
      exact ⟨_, rfl, leaf_is _ _ 0 0 _ (by decide) (by decide) (sz_max _ (by decide)), hbe⟩
  case stop =>
    rintro D c pre W _ _ h _
    exact h.elim
end Go.Proofs.YtenikoecnfbfoaaDoor
/- Layer 8: the program's Dir: its errors; all together. -/
namespace Go.Proofs.YtenikoecnfbfoaaDoor
open Go.RowKit
set_option linter.unusedVariables false
set_option linter.unusedSimpArgs false
open Gr (RT dirV zeroV dirT sortO)

set_option maxRecDepth 100000 in
theorem dir_big (w : World) (v : Value) (l : List RT) (h : RtAt w v l) (hl : 100 < l.length) (hl2 : l.length ≤ 1000000) : Calls Tryd.prog 7 #[v] w (DirEnd w (dirT l)) := by
  obtain ⟨ao, cap, rfl, _⟩ := h
  have h1 : (100 : Int) < (l.length : Int) := by omega
  have hdt : dirT l = (zeroV, 4) := by unfold dirT; rw [if_pos hl]
  rw [hdt]
  clear hdt hl
  have hbl := World.alloc_heap_new w (.cells #[.int .i64 0, .int .i64 0, .string ⟨#[]⟩, .slice none 0 0] 26)
  have HBL := Lib.hid hbl
  clear hbl
  go_enter Tryd.func7, Tryd.ntmps7
  go_wp2
  obtain ⟨y0, y1, y2, y3, _⟩ := hdr4_cells HBL.out
  refine bodyPost_ret (v := .tuple #[.agg #[.int .i64 0, .int .i64 0, .string ⟨#[]⟩, .slice none 0 0], .int .i64 4]) (by simp [results, Tryd.results7, go_sem, y0, y1, y2, y3]) rfl ?_
  exact ⟨_, rfl, leaf_is _ _ 0 0 _ (by decide) (by decide) (sz_max _ (by decide)), (Below.refl _ _).alloc (Nat.le_refl _) _⟩
set_option maxRecDepth 100000 in
theorem dir_none (w : World) (v : Value) (l : List RT) (h : RtAt w v l) (hl : l.length ≤ 100) (hs : sortO l [] = none)
    (hS : ∀ W, Below w.heap.size w W → Calls Tryd.prog 10 #[v] W (SrtEnd W l)) : Calls Tryd.prog 7 #[v] w (DirEnd w (dirT l)) := by
  obtain ⟨ao, cap, rfl, _⟩ := h
  have HS := Lib.hid hS
  have h1 : ¬ (100 : Int) < (l.length : Int) := by omega
  have hdt : dirT l = (zeroV, 2) := by unfold dirT; rw [if_neg (by omega), hs]
  rw [hdt]
  clear hdt hS
  go_enter Tryd.func7, Tryd.ntmps7
  go_wp2_with (go_at_call 10; refine (HS.out _ ((Below.refl _ _).alloc (Nat.le_refl _) _)).mono ?_; rintro e w2 ⟨v2, rfl, _, hn, hb⟩; have hn2 := hn hs; subst hn2; have HB2 := Lib.hid hb; have zR := (hb.block w.heap.size (by simp)).trans (World.alloc_heap_new w _); obtain ⟨r0, r1, r2, r3, r4⟩ := hdr4_cells zR; have ZR := Lib.hid zR; clear hb zR hn; simp only [hs, Option.isSome_none])
  obtain ⟨z1, z2⟩ := four_ret (y0 := .int .i64 0) (y1 := .int .i64 0) (y2 := .string ⟨#[]⟩) (y3 := .slice none 0 0) ZR.out
  generalize ((((World.setCell _ _ _).setCell _ _).setCell _ _).setCell _ _) = wz at z1 z2 ⊢
  clear r0 r1 r2 r3 r4
  obtain ⟨y0, y1, y2, y3, _⟩ := hdr4_cells z1
  refine bodyPost_ret (v := .tuple #[.agg #[.int .i64 0, .int .i64 0, .string ⟨#[]⟩, .slice none 0 0], .int .i64 2]) (by simp [results, Tryd.results7, go_sem, y0, y1, y2, y3]) rfl ?_
  have h1 : Below w.heap.size w w2 := ((Below.refl _ _).alloc (Nat.le_refl _) _).trans (HB2.out.mono (by simp))
  exact ⟨_, rfl, leaf_is _ _ 0 0 _ (by decide) (by decide) (sz_max _ (by decide)), h1.trans (z2.below h1.size (by simp))⟩
/-- The program's Dir. -/
theorem dir_any' (w : World) (v : Value) (l : List RT) (h : RtAt w v l) (hl : l.length ≤ 1000000) (hsz : ∀ r ∈ l, Gd r)
    (hS : ∀ W, Below w.heap.size w W → Calls Tryd.prog 10 #[v] W (SrtEnd W l)) : Calls Tryd.prog 7 #[v] w (DirEnd w (dirT l)) := by
  by_cases hb : 100 < l.length
  · exact dir_big w v l h hb hl
  · cases hs : sortO l [] with
    | none => exact dir_none w v l h (by omega) hs hS
    | some s => exact dir_some w v l s h (by omega) hs hsz hS
end Go.Proofs.YtenikoecnfbfoaaDoor
/- Layer 8: the document's sorted: the region that puts a root in. -/
namespace Go.Proofs.YtenikoecnfbfoaaDoor
open Go.RowKit
set_option linter.unusedVariables false
set_option linter.unusedSimpArgs false
open Gr (RT)
def regG (n : Nat) : Code → Option Code
  | .region k o d => if k = n then some (.region k o d) else none
  | .loop c => regG n c
  | .seq a b => match regG n a with
    | some c => some c
    | none => regG n b
  | .block _ c => regG n c
  | .scope c => regG n c
  | .cond _ a b => match regG n a with
    | some c => some c
    | none => regG n b
  | _ => none
theorem use_regG {P : Program} {c c' : Code} {K : Exit → Act → World → Prop} {a : Act} {w : World} (hc : c = c') (h : Code.wp P c' K a w) : Code.wp P c K a w := hc ▸ h
theorem rtcells_take : ∀ (l : List RT) (k : Nat), (rtcells l).take (k * 3) = rtcells (l.take k)
  | [], k => by simp [rtcells]
  | r :: l, 0 => by simp [rtcells]
  | r :: l, k + 1 => by
    rw [rtcells_cons, List.take_succ_cons, rtcells_cons, List.take_append, rcs_len, List.take_of_length_le (by rw [rcs_len]; omega), show (k + 1) * 3 - 3 = k * 3 by omega, rtcells_take l k]
theorem rtcells_drop : ∀ (l : List RT) (k : Nat), (rtcells l).drop (k * 3) = rtcells (l.drop k)
  | [], k => by simp [rtcells]
  | r :: l, 0 => by simp
  | r :: l, k + 1 => by
    rw [rtcells_cons, List.drop_succ_cons, List.drop_append, rcs_len, List.drop_of_length_le (by rw [rcs_len]; omega), show (k + 1) * 3 - 3 = k * 3 by omega, rtcells_drop l k, List.nil_append]
/-- What an append has left is the call's own still. -/
theorem app_own {n : Nat} {w W W' : World} {v v' : Value} (hb : Below n w W) (hn : n ≤ W.heap.size) (hv : ∀ k, v.ownBlock = some k → n ≤ k) (ha : Appended W v W' v') : Below n w W' ∧ n ≤ W'.heap.size ∧ ∀ k, v'.ownBlock = some k → n ≤ k := by
  have hc := ha.chg
  refine ⟨hb.trans (hc.below hn (fun k hk => hv k (by simpa using hk))), Nat.le_trans hn hc.size, fun k hk => ?_⟩
  rcases ha.out hk with e | e
  · exact hv k e
  · omega
/-- A row under way: the world has kept what stood before, the row is the call's own. -/
def St (T : TypeId) (wr W : World) (v : Value) (l : List RT) : Prop := Below wr.heap.size wr W ∧ RtRow T W wr.heap.size v l
theorem St.new (T : TypeId) {wr W : World} (hb : Below wr.heap.size wr W) (N : Nat) (hN : W.heap.size = N) : St T wr (W.alloc (.cells #[] T)) (.slice (some ⟨N, 0, none⟩) 0 0) [] :=
  hN ▸ ⟨hb.alloc hb.size _, RowZ.none0 W T 3, fun k hk => by simp [Value.ownBlock] at hk; have := hb.size; omega⟩
theorem St.one (T : TypeId) {wr W : World} (hb : Below wr.heap.size wr W) (r : RT) (N : Nat) (hN : W.heap.size = N) : St T wr (W.alloc (.cells #[.string (bytes r.name), .string (bytes r.typ), .int .i64 r.id] T)) (.slice (some ⟨N, 0, none⟩) 1 1) [r] :=
  hN ▸ ⟨hb.alloc hb.size _, ⟨by simp [rtcells_cons, rcs_len, rtcells_nil], .inr ⟨W.heap.size, 1, _, rfl, Nat.zero_le _, heap_alloc_new W _, Nat.le_refl _, by unfold maxLen; omega, by simp, by simp [rtcells, rcs]⟩⟩, fun k hk => by simp [Value.ownBlock] at hk; have := hb.size; omega⟩
theorem St.alloc {T : TypeId} {wr W : World} {v : Value} {l : List RT} (h : St T wr W v l) (o : Obj) : St T wr (W.alloc o) v l := ⟨h.1.alloc h.1.size _, h.2.below (Below.alloc (Below.refl _ _) (Nat.le_refl _) _)⟩
theorem St.app {T : TypeId} {wr W W' : World} {v v' : Value} {l m : List RT} {n : Nat} {xs : List Value} (h : St T wr W v l) (ha : Appended W v W' v') (hr : RowZ W' T 3 v' n xs) (hn : n = m.length) (hx : xs = rtcells m) : St T wr W' v' m := by
  obtain ⟨k1, k2, k3⟩ := app_own h.1 h.1.size h.2.2 ha
  subst hn hx
  exact ⟨k1, hr, k3⟩
theorem St.keep {T : TypeId} {wr W W' : World} {v v' v1 : Value} {m : List RT} (h : St T wr W v1 m) (hb : Below wr.heap.size wr W') (ha : Appended W v W' v') (hne : ∀ k, v1.ownBlock = some k → v.ownBlock ≠ some k) : St T wr W' v1 m := by
  exact ⟨hb, h.2.chg ha.chg (fun k hk => by simp; exact hne k hk)⟩
theorem St.apart {T : TypeId} {wr W W' : World} {v v' v1 : Value} {m : List RT} (h : St T wr W v1 m) (ha : Appended W v W' v') (hne : ∀ k, v1.ownBlock = some k → v.ownBlock ≠ some k) : ∀ k, v1.ownBlock = some k → v'.ownBlock ≠ some k := fun k hk e => by
  have := h.2.1.lt hk
  rcases ha.out e with e2 | e2
  · exact hne k hk e2
  · omega
theorem apart6 {T : TypeId} {wr W : World} {v : Value} {l : List RT} (h : St T wr W v l) (N : Nat) (hN : W.heap.size = N) (n c : Nat) : ∀ k, (Value.slice (some ⟨N, 0, none⟩) n c).ownBlock = some k → v.ownBlock ≠ some k := fun k hk e => by
  have := h.2.1.lt e
  simp [Value.ownBlock] at hk
  omega
theorem apart0 {T : TypeId} {wr W : World} {v : Value} {l : List RT} (h : St T wr W v l) (N : Nat) (hN : W.heap.size = N) (n c : Nat) : ∀ k, v.ownBlock = some k → (Value.slice (some ⟨N, 0, none⟩) n c).ownBlock ≠ some k := fun k hk e => by
  have := h.2.1.lt hk
  simp [Value.ownBlock] at e
  omega
theorem St.give {T : TypeId} {wr W : World} {v : Value} {l : List RT} (h : St T wr W v l) : Gives W v l.length (rtcells l) := Gives.of_row h.2.1
end Go.Proofs.YtenikoecnfbfoaaDoor
/- Layer 8: the document's sorted. -/
namespace Go.Proofs.YtenikoecnfbfoaaDoor
open Go.RowKit
set_option linter.unusedVariables false
set_option linter.unusedSimpArgs false
open Gr (RT sortO insR ltN)

theorem ltN_less : ∀ a b : List UInt8, Op.bytesLess a b = ltN a b
  | [], [] => rfl
  | _ :: _, [] => rfl
  | [], _ :: _ => rfl
  | x :: a, y :: b => by
    have ih := ltN_less a b
    unfold ltN at ih ⊢
    unfold Op.bytesLess Lib.compareBytes
    by_cases h1 : x < y
    · simp [h1]
    · by_cases h2 : y < x
      · have h3 : x ≠ y := fun e => by subst e; exact UInt8.lt_irrefl _ h2
        simp [h1, h2, h3]
      · have h3 : x = y := UInt8.le_antisymm (UInt8.not_lt.1 h2) (UInt8.not_lt.1 h1)
        subst h3
        simp [h1, ih]
theorem less_bytes (a b : List UInt8) : Op.bytesLess (bytes a).toList (bytes b).toList = ltN a b := by
  rw [ByteArray.toList_eq, ByteArray.toList_eq]
  exact ltN_less a b
theorem eq_bytes (a b : List UInt8) : ((bytes a).toList == (bytes b).toList) = (a == b) := by
  rw [ByteArray.toList_eq, ByteArray.toList_eq]
  rfl
theorem ok_iff' (r : RT) : r.ok = true ↔ r.name ≠ [] ∧ r.name.length ≤ 40 ∧ r.typ.length ≤ 1000 ∧ 1 ≤ r.id ∧ r.id ≤ 1099511627776 := by
  unfold RT.ok
  simp only [Bool.and_eq_true, Bool.not_eq_true', decide_eq_true_eq, List.isEmpty_eq_false_iff, and_assoc]
theorem bytes_empty' (l : List UInt8) : (bytes l).toList.isEmpty = l.isEmpty := by rw [ByteArray.toList_eq]; simp [bytes]
theorem RtAt.cells {w : World} {v : Value} {l : List RT} (h : RtAt w v l) : ∃ ao cap, v = .slice ao l.length cap ∧ ∀ (j : Nat) r, l[j]? = some r → ∃ b off, ao = some ⟨b, off, none⟩ ∧ b < w.heap.size ∧ w.cell? ⟨b, off + j * 3, none⟩ = some (.string (bytes r.name)) ∧ w.cell? ⟨b, off + j * 3 + 1, none⟩ = some (.string (bytes r.typ)) ∧ w.cell? ⟨b, off + j * 3 + 2, none⟩ = some (.int .i64 r.id) := by
  obtain ⟨ao, cap, hv, _, _, _, hbk, hcl⟩ := h
  refine ⟨ao, cap, hv, fun j r hj => ?_⟩
  obtain ⟨g1, g2, g3⟩ := rtcells_get hj
  obtain ⟨b, off, e1, e2⟩ := hcl _ _ g1
  obtain ⟨b2, off2, e3, e4⟩ := hcl _ _ g2
  obtain ⟨b3, off3, e5, e6⟩ := hcl _ _ g3
  rw [e1] at e3 e5
  cases e3
  cases e5
  exact ⟨b, off, e1, (hbk b off none e1).2, e2, e4, e6⟩
def RkLoop (w1 : World) (o : List RT) (r : RT) (gk : Nat) (s7 : Value) (wr : World) : Prop :=
  ∃ k : Nat, k + gk = o.length ∧ s7 = .int .i64 (k : Int) ∧ (∀ j x, j < k → o[j]? = some x → ltN x.name r.name = true) ∧ Below w1.heap.size w1 wr
end Go.Proofs.YtenikoecnfbfoaaDoor
/- Layer 8: Make's loop over the roots, over letters. -/
namespace Go.Proofs.YtenikoecnfbfoaaDoor
open Go.RowKit Go.Maps
set_option linter.unusedVariables false
set_option linter.unusedSimpArgs false
open Gr (RT meetT pairs numOf)
/-- The block of a number. -/
def blkOf (n : Nat) : Code → Option Code
  | .block k c => if k = n then some (.block k c) else blkOf n c
  | .loop c => blkOf n c
  | .seq a b => match blkOf n a with
    | some c => some c
    | none => blkOf n b
  | .scope c => blkOf n c
  | .cond _ a b => match blkOf n a with
    | some c => some c
    | none => blkOf n b
  | .rangeFunc _ _ _ b => blkOf n b
  | _ => none
noncomputable def mkB2 : Code := ((Tryd.f4.body.bind (blkOf 2)).getD .skip)
/-- A root whose number is the new one. -/
def renum (met : List Int) (r : RT) : RT := ⟨r.name, r.typ, numOf met r.id⟩
def metOf (s : List RT) : List Int := (s.map RT.id).foldl meetT []
theorem metOf_snoc (s : List RT) (r : RT) : metOf (s ++ [r]) = meetT (metOf s) r.id := by simp [metOf]
theorem metOf_len : ∀ s : List RT, (metOf s).length ≤ s.length := fun s => by
  have := Gr.meets_len (s.map RT.id) []
  simpa [metOf] using this
/-- The walk has gone on, and the blocks F have turned. -/
def WkS (F : List Nat) (w w' : World) (Bw Bm : Nat) (sw sl sw' sl' : Value) : Prop :=
  Chg (wkF Bw Bm sw sl ++ F) w w' ∧ (∀ k, sw'.ownBlock = some k → sw.ownBlock = some k ∨ w.heap.size ≤ k) ∧ (∀ k, sl'.ownBlock = some k → sl.ownBlock = some k ∨ w.heap.size ≤ k)
theorem WkS.refl (F : List Nat) (w : World) (Bw Bm : Nat) (sw sl : Value) : WkS F w w Bw Bm sw sl sw sl := ⟨Chg.refl _ _, fun k hk => .inl hk, fun k hk => .inl hk⟩
theorem WkS.wkF {F : List Nat} {w w' : World} {Bw Bm : Nat} {sw sl sw' sl' : Value} (h : WkS F w w' Bw Bm sw sl sw' sl') {k : Nat} (hk : k ∈ wkF Bw Bm sw' sl') : k ∈ wkF Bw Bm sw sl ∨ w.heap.size ≤ k := by
  simp only [Go.Proofs.YtenikoecnfbfoaaDoor.wkF, List.mem_cons, List.mem_append, Option.mem_toList] at hk ⊢
  rcases hk with e | e | e | e
  · exact .inl (.inl e)
  · exact .inl (.inr (.inl e))
  · exact (h.2.1 k e).imp (fun h => .inr (.inr (.inl h))) id
  · exact (h.2.2 k e).imp (fun h => .inr (.inr (.inr h))) id
theorem WkS.step {F : List Nat} {w w1 w2 : World} {Bw Bm : Nat} {sw sl sw1 sl1 sw2 sl2 : Value} (h : WkS F w w1 Bw Bm sw sl sw1 sl1) (g : WkStep w1 w2 Bw Bm sw1 sl1 sw2 sl2) : WkS F w w2 Bw Bm sw sl sw2 sl2 := by
  have hs := h.1.size
  refine ⟨h.1.trans g.1 (fun k hk => ?_), fun k hk => ?_, fun k hk => ?_⟩
  · rcases h.wkF hk with e | e
    · exact .inl (List.mem_append_left _ e)
    · exact .inr e
  · rcases g.2.1 k hk with e | e
    · exact h.2.1 k e
    · exact .inr (by omega)
  · rcases g.2.2 k hk with e | e
    · exact h.2.2 k e
    · exact .inr (by omega)
theorem WkS.chg {F G : List Nat} {w w1 w2 : World} {Bw Bm : Nat} {sw sl sw1 sl1 : Value} (h : WkS F w w1 Bw Bm sw sl sw1 sl1) (g : Chg G w1 w2) (hG : ∀ k ∈ G, k ∈ F ∨ w.heap.size ≤ k) : WkS F w w2 Bw Bm sw sl sw1 sl1 :=
  ⟨h.1.trans g (fun k hk => (hG k hk).imp_left (fun h => List.mem_append_right _ h)), h.2.1, h.2.2⟩
theorem WkS.block {F : List Nat} {w w' : World} {Bw Bm : Nat} {sw sl sw' sl' : Value} (h : WkS F w w' Bw Bm sw sl sw' sl') {k : Nat} (hk : k < w.heap.size) (h1 : k ∉ Go.Proofs.YtenikoecnfbfoaaDoor.wkF Bw Bm sw sl) (h2 : k ∉ F) : w'.heap[k]? = w.heap[k]? := h.1.block k hk (by simp [h1, h2])
theorem WkStep.pre {w w' : World} {o : Obj} {Bw Bm : Nat} {sw sl sw' sl' : Value} (h : WkStep (w.alloc o) w' Bw Bm sw sl sw' sl') : WkStep w w' Bw Bm sw sl sw' sl' :=
  ⟨((Chg.refl _ w).alloc o).trans h.1 (fun k hk => .inl hk), fun k hk => (h.2.1 k hk).imp_right (fun h => by simp at h; omega), fun k hk => (h.2.2 k hk).imp_right (fun h => by simp at h; omega)⟩
theorem WkAt.lt {w : World} {N Bw Ba Bm : Nat} {sw sl : Value} {met : List Int} (h : WkAt w N Bw Ba Bm sw sl met) {k : Nat} (hk : k ∈ wkF Bw Bm sw sl) : k < w.heap.size := by
  simp only [wkF, List.mem_cons, List.mem_append, Option.mem_toList] at hk
  rcases hk with rfl | rfl | e | e
  · exact lt_of_block h.blk
  · exact h.mp.lt
  · exact h.wt.1.lt e
  · exact h.pr.1.lt e
theorem rtcells_set {l : List RT} {i : Nat} {r : RT} {n : Int} (h : l[i]? = some r) : (rtcells l).set (i * 3 + 2) (.int .i64 n) = rtcells (l.set i ⟨r.name, r.typ, n⟩) := by
  induction l generalizing i with
  | nil => cases h
  | cons x l ih =>
    cases i with
    | zero =>
      rw [List.getElem?_cons_zero] at h
      cases h
      rfl
    | succ i =>
      rw [List.getElem?_cons_succ] at h
      rw [List.set_cons_succ, rtcells_cons, rtcells_cons, ← ih h, List.set_append_right _ _ (by rw [rcs_len]; omega), rcs_len]
      congr 2
      omega
/-- The rows under way: the first i renumbered. -/
def rootsAt (s : List RT) (i : Nat) (met : List Int) : List RT := (s.take i).map (renum met) ++ s.drop i
theorem rootsAt_len (s : List RT) (i : Nat) (met : List Int) : (rootsAt s i met).length = s.length := by
  unfold rootsAt
  rw [List.length_append, List.length_map, List.length_take, List.length_drop]
  omega
theorem rootsAt_get {s : List RT} {i : Nat} {met : List Int} {r : RT} (h : s[i]? = some r) : (rootsAt s i met)[i]? = some r := by
  have hi := (List.getElem?_eq_some_iff.1 h).1
  unfold rootsAt
  rw [List.getElem?_append_right (by rw [List.length_map, List.length_take]; omega), List.length_map, List.length_take, List.getElem?_drop, ← h]
  congr 1
  omega
theorem numOf_meet {met : List Int} {a b : Int} (h : a ∈ met) : numOf (meetT met b) a = numOf met a := by
  by_cases hb : b ∈ met
  · rw [Gr.meetT_in hb]
  · rw [Gr.meetT_out hb]
    unfold numOf
    rw [Gr.pairs_snoc, firstP_snoc]
    obtain ⟨c, _, _, hc⟩ := Gr.pairsF_some (k := 1) h
    unfold pairs
    rw [hc]
theorem rootsAt_next {s : List RT} {i : Nat} {r : RT} (h : s[i]? = some r) : (rootsAt s i (metOf (s.take i))).set i ⟨r.name, r.typ, numOf (metOf (s.take (i + 1))) r.id⟩ = rootsAt s (i + 1) (metOf (s.take (i + 1))) := by
  have hi := (List.getElem?_eq_some_iff.1 h).1
  have hr := (List.getElem?_eq_some_iff.1 h).2
  have e1 : s.take (i + 1) = s.take i ++ [r] := by rw [List.take_add_one, h]; rfl
  have e2 : s.drop i = r :: s.drop (i + 1) := by rw [List.drop_eq_getElem_cons hi, hr]
  unfold rootsAt
  rw [e2, List.set_append_right _ _ (by rw [List.length_map, List.length_take]; omega), List.length_map, List.length_take, Nat.min_eq_left (by omega), Nat.sub_self, List.set_cons_zero, e1, List.map_append, List.map_cons, List.map_nil, List.append_assoc, List.singleton_append]
  congr 1
  apply List.map_congr_left
  intro x hx
  unfold renum
  rw [metOf_snoc, numOf_meet]
  unfold metOf
  exact Gr.meets_mem.2 (.inr (List.mem_map.2 ⟨x, hx, rfl⟩))
def Mk2I (W0 : World) (N Bw Ba Bm : Nat) (sw0 sl0 : Value) (ar : Option Addr) (cr : Nat) (s : List RT) (gk : Nat) (s63 : Value) (wr : World) : Prop :=
  ∃ (i : Nat) (sw sl : Value), s63 = .int .i64 (i : Int) ∧ i + gk = s.length ∧ WkAt wr N Bw Ba Bm sw sl (metOf (s.take i)) ∧ WkS (Value.slice ar s.length cr).ownBlock.toList W0 wr Bw Bm sw0 sl0 sw sl ∧ RtRow 36 wr N (.slice ar s.length cr) (rootsAt s i (metOf (s.take i)))
set_option maxRecDepth 100000 in
set_option maxHeartbeats 8000000 in
theorem mk2 {K : Exit → Act → World → Prop} {ds : List Deferred} {W0 : World} {N Bw Ba Bm Bp Bg cr : Nat} {sw0 sl0 og : Value} {ar : Option Addr} {s : List RT} {u0 u1 u2 u3 u4 u5 u6 u7 u9 u10 u12 u13 u14 u15 u16 u17 u18 u19 u20 u21 u22 u23 u24 u25 u26 u27 u28 u29 u30 u31 u32 u33 u34 u35 u36 u37 u38 u39 u40 u41 u42 u43 u44 u45 u46 u47 u48 u49 u50 u51 u52 u53 u54 u55 u56 u57 u58 u59 u60 u64 u65 u66 u67 u68 u69 u70 u71 u72 u73 u74 u75 u76 u77 u78 u79 u80 u81 u82 u83 u84 u85 u86 u87 u88 u89 u90 u91 u92 u93 u94 u95 u96 u97 u98 u99 u100 u101 u102 u103 u104 u105 u106 u107 u108 u109 u110 u111 u112 u113 u114 u115 u116 u117 u118 u119 u120 u121 u122 u123 u124 u125 u126 u127 u128 u129 u130 u131 u132 u133 u134 u135 u136 u137 u138 u139 u140 u141 u142 u143 u144 u145 u146 u147 u148 u149 : Value}
    (hwk : WkAt W0 N Bw Ba Bm sw0 sl0 []) (hbp : W0.heap[Bp]? = some (.cells #[.pointer (some ⟨Bw, 0, none⟩)] 42 (0, 0))) (hbg : W0.heap[Bg]? = some (.cells #[.slice ar s.length cr, og] 31 (0, 0)))
    (hrow : RtRow 36 W0 N (.slice ar s.length cr) s) (hx1 : Bp ∉ wkF Bw Bm sw0 sl0) (hx2 : Bg ∉ wkF Bw Bm sw0 sl0) (hx3 : ∀ k, (Value.slice ar s.length cr).ownBlock = some k → k ∉ wkF Bw Bm sw0 sl0 ∧ k ≠ Bp ∧ k ≠ Bg)
    (hs : s.length ≤ 100) (hwf : ∀ r ∈ s, (Lit.int .i64 r.id).wf = true)
    (hgo : ∀ (v12 v13 v63 v64 v65 v66 v67 v68 v69 v70 v71 v72 v73 v74 v75 v76 v77 v78 v79 v80 v81 v82 v83 v84 : Value) (W : World) (sw sl : Value), WkAt W N Bw Ba Bm sw sl (metOf s) → WkS (Value.slice ar s.length cr).ownBlock.toList W0 W Bw Bm sw0 sl0 sw sl → RtRow 36 W N (.slice ar s.length cr) (s.map (renum (metOf s))) → K .normal { tmps := #[u0, u1, u2, u3, u4, u5, u6, u7, .pointer (some ⟨Bp, 0, none⟩), u9, u10, .pointer (some ⟨Bg, 0, none⟩), v12, v13, u14, u15, u16, u17, u18, u19, u20, u21, u22, u23, u24, u25, u26, u27, u28, u29, u30, u31, u32, u33, u34, u35, u36, u37, u38, u39, u40, u41, u42, u43, u44, u45, u46, u47, u48, u49, u50, u51, u52, u53, u54, u55, u56, u57, u58, u59, u60, .slice ar s.length cr, .int .i64 (s.length : Int), v63, v64, v65, v66, v67, v68, v69, v70, v71, v72, v73, v74, v75, v76, v77, v78, v79, v80, v81, v82, v83, v84, u85, u86, u87, u88, u89, u90, u91, u92, u93, u94, u95, u96, u97, u98, u99, u100, u101, u102, u103, u104, u105, u106, u107, u108, u109, u110, u111, u112, u113, u114, u115, u116, u117, u118, u119, u120, u121, u122, u123, u124, u125, u126, u127, u128, u129, u130, u131, u132, u133, u134, u135, u136, u137, u138, u139, u140, u141, u142, u143, u144, u145, u146, u147, u148, u149], defers := ds } W) :
    Code.wp Tryd.prog mkB2 K { tmps := #[u0, u1, u2, u3, u4, u5, u6, u7, .pointer (some ⟨Bp, 0, none⟩), u9, u10, .pointer (some ⟨Bg, 0, none⟩), u12, u13, u14, u15, u16, u17, u18, u19, u20, u21, u22, u23, u24, u25, u26, u27, u28, u29, u30, u31, u32, u33, u34, u35, u36, u37, u38, u39, u40, u41, u42, u43, u44, u45, u46, u47, u48, u49, u50, u51, u52, u53, u54, u55, u56, u57, u58, u59, u60, .slice ar s.length cr, .int .i64 (s.length : Int), .int .i64 0, u64, u65, u66, u67, u68, u69, u70, u71, u72, u73, u74, u75, u76, u77, u78, u79, u80, u81, u82, u83, u84, u85, u86, u87, u88, u89, u90, u91, u92, u93, u94, u95, u96, u97, u98, u99, u100, u101, u102, u103, u104, u105, u106, u107, u108, u109, u110, u111, u112, u113, u114, u115, u116, u117, u118, u119, u120, u121, u122, u123, u124, u125, u126, u127, u128, u129, u130, u131, u132, u133, u134, u135, u136, u137, u138, u139, u140, u141, u142, u143, u144, u145, u146, u147, u148, u149], defers := ds } W0 := by
  have HGO := Lib.hid hgo
  have HBP := Lib.hid hbp
  have HBG := Lib.hid hbg
  have HX1 := Lib.hid hx1
  have HX2 := Lib.hid hx2
  have HX3 := Lib.hid hx3
  have HWF := Lib.hid hwf
  have HWK := Lib.hid hwk
  have HROW := Lib.hid hrow
  have HSL := Lib.hid hs
  have sl1 : (s.length : Int) ≤ 100 := by omega
  clear hgo hbp hbg hx1 hx2 hx3 hwf hwk hrow hs
  conv => arg 2; whnf
  go_wp2
  go_loopg [63] s.length (fun gk s63 wr => Mk2I W0 N Bw Ba Bm sw0 sl0 ar cr s gk s63 wr)
  case atStart => exact ⟨0, sw0, sl0, rfl, by omega, HWK.out, WkS.refl _ _ _ _ _ _, HROW.out⟩
  case round =>
    obtain ⟨i, sw, sl, rfl, hi, hwk, hws, hrow⟩ := hrel
    have HWK1 := Lib.hid hwk
    have HWS := Lib.hid hws
    have HRW := Lib.hid hrow
    have HI := Lib.hid hi
    have i0 : (0 : Int) ≤ (i : Int) := by omega
    clear hwk hws hrow hi
    by_cases hlt : i < s.length
    · have i1 : (i : Int) < (s.length : Int) := by omega
      obtain ⟨r, hr⟩ : ∃ r, s[i]? = some r := ⟨_, List.getElem?_eq_getElem hlt⟩
      have HR := Lib.hid hr
      have hget := rootsAt_get (met := metOf (s.take i)) hr
      obtain ⟨aq, cq, eq, hcc⟩ := HRW.out.at_.cells
      rw [rootsAt_len] at eq
      cases eq
      obtain ⟨b, off, rfl, hbl, c0, c1, c2⟩ := hcc i r hget
      have hoff : off = 0 ∧ True := by
        obtain ⟨ao', cap', e', _, _, _, h4⟩ := HRW.out.1.form
        rw [rootsAt_len] at e'
        cases e'
        obtain ⟨g, e, _⟩ := h4 _ rfl
        exact ⟨congrArg Addr.off e, trivial⟩
      obtain ⟨rfl, -⟩ := hoff
      rw [Nat.zero_add] at c0 c1 c2
      have hpb := (HWS.out.block (lt_of_block HBP.out) HX1.out (fun h => (HX3.out Bp (by simpa using h)).2.1 rfl)).trans HBP.out
      have hgb := (HWS.out.block (lt_of_block HBG.out) HX2.out (fun h => (HX3.out Bg (by simpa using h)).2.2 rfl)).trans HBG.out
      have HPB := Lib.hid hpb
      have HGB := Lib.hid hgb
      have hbln : b < wr.heap.size := hbl
      have HBL := Lib.hid hbln
      have p0 : wr.cell? ⟨Bp, 0, none⟩ = some (.pointer (some ⟨Bw, 0, none⟩)) := by unfold World.cell?; rw [hpb]; rfl
      have hwfr := HWF.out r (List.mem_of_getElem? hr)
      have HWR := Lib.hid hwfr
      have HLT := Lib.hid hlt
      have p1 : ∀ o : Obj, (wr.alloc o).cell? ⟨Bp, 0, none⟩ = some (.pointer (some ⟨Bw, 0, none⟩)) := fun o => (Below.cell ((Below.refl _ _).alloc (Nat.le_refl _) o) (p := ⟨Bp, 0, none⟩) (lt_of_block HPB.out)).trans p0
      clear hget hcc hbl hpb hgb hr hwfr hbln hlt
      have HMT := Lib.hid (fun o : Obj => meet_any (wr.alloc o) N Bw Ba Bm sw sl (metOf (s.take i)) r.id (HWK1.out.below ((Below.refl _ _).alloc (Nat.le_refl _) o)) (by have := metOf_len (s.take i); rw [List.length_take] at this; have := HSL.out; omega) HWR.out)
      go_wp2_with (go_at_call 11; refine (HMT.out _).mono ?_; rintro e w2 ⟨sw2, sl2, rfl, hwk2, hst2⟩; have HWK2 := Lib.hid hwk2; have HST2 := Lib.hid hst2; clear hwk2 hst2)
      have HNI : Hid (∀ k, k < W0.heap.size → k ∉ wkF Bw Bm sw0 sl0 → k ∉ wkF Bw Bm sw sl) := fun k hk hn h => by
        rcases HWS.out.wkF h with e | e
        · exact hn e
        · omega
      have hbx := World.alloc_heap_new wr (.cells #[.string (bytes r.name), .string (bytes r.typ), .int .i64 r.id] 36)
      have hst : WkStep wr w2 Bw Bm sw sl sw2 sl2 := HST2.out.pre
      have hwr : ∀ k, k ∈ wkF Bw Bm sw sl → k < wr.heap.size := fun k hk => HWK1.out.lt hk
      have z13 := (HST2.out.1.block wr.heap.size (by simp) (fun h => by have := hwr _ h; omega)).trans hbx
      have zP := (hst.1.block Bp (lt_of_block HPB.out) (HNI.out Bp (lt_of_block HBP.out) HX1.out)).trans HPB.out
      have zG := (hst.1.block Bg (lt_of_block HGB.out) (HNI.out Bg (lt_of_block HBG.out) HX2.out)).trans HGB.out
      have hrow2 : RtRow 36 w2 N (.slice (some ⟨b, 0, none⟩) s.length cr) (rootsAt s i (metOf (s.take i))) := HRW.out.chg hst.1 (fun k hk => HNI.out k (HROW.out.1.lt hk) (HX3.out k hk).1)
      obtain ⟨aq, cq, eq, hcc⟩ := hrow2.at_.cells
      rw [rootsAt_len] at eq
      cases eq
      obtain ⟨b', off', e', hbl, _, _, d2⟩ := hcc i r (rootsAt_get HR.out)
      cases e'
      rw [Nat.zero_add] at d2
      have hfz := World.ownsRow.frozenAt (by have := hrow2.1; rw [rootsAt_len] at this; exact this) (i * 3 + 2)
      obtain ⟨_, m1, _, _, _⟩ := cells4 HWK2.out.blk
      have l16 : (Instr.lookup 44 (.map (some Bm)) (.int .i64 r.id) false).run Tryd.prog w2.drew = .ok (.int .i64 (numOf (meetT (metOf (s.take i)) r.id) r.id)) w2.drew := (HWK2.out.mp.chg (F := []) (w' := w2.drew) ((Chg.refl [] w2).drewN 1) (by simp)).look Tryd.underlying3 Tryd.underlying44 Tryd.underlying3 (by kernel_rfl) HWR.out
      have y13 : w2.cell? ⟨wr.heap.size, 2, none⟩ = some (.int .i64 r.id) := by unfold World.cell?; rw [z13]; rfl
      have yP : w2.cell? ⟨Bp, 0, none⟩ = some (.pointer (some ⟨Bw, 0, none⟩)) := by unfold World.cell?; rw [zP]; rfl
      have yG : w2.cell? ⟨Bg, 0, none⟩ = some (.slice (some ⟨b, 0, none⟩) s.length cr) := by unfold World.cell?; rw [zG]; rfl
      have HST := Lib.hid hst
      have HR2 := Lib.hid hrow2
      generalize hnn : numOf (meetT (metOf (s.take i)) r.id) r.id = nn at l16
      have HNN := Lib.hid hnn
      generalize wr.heap.size = Bx at *
      clear hbx hst hwr z13 zP zG hrow2 hcc hnn p0 p1 c0 c1 c2
      refine region_tail 12 (by kernel_rfl) (by kernel_rfl) ?_
      simp only [List.take_succ_cons, List.take_zero, List.drop_succ_cons, List.drop_zero]
      repeat (refine wpStill_step (fun K hK => ?_); go_simp; (try go_bits); (refine hK _ ?_; clear hK K))
      refine wpStill_nil ?_
      go_wp2
      have e2 : s.take (i + 1) = s.take i ++ [r] := by rw [List.take_add_one, HR.out]; rfl
      have hc3 : Chg [b] w2 ((w2.setCell ⟨b, i * 3 + 2, none⟩ (.int .i64 nn)).drew) := ((Chg.refl [b] w2).setCell (.inl (by simp)) _).drewN 1
      have hr3 : RtRow 36 ((w2.setCell ⟨b, i * 3 + 2, none⟩ (.int .i64 nn)).drew) N (.slice (some ⟨b, 0, none⟩) s.length cr) (rootsAt s (i + 1) (metOf (s.take (i + 1)))) := by
        have h1 := HR2.out.1.chg (F := []) (w' := w2.drew) ((Chg.refl [] w2).drewN 1) (by simp)
        rw [rootsAt_len] at h1
        have h2 := (World.ownsRow.stored h1 (i * 3 + 2) (.int .i64 nn)).1
        rw [rtcells_set (rootsAt_get HR.out), ← HNN.out, ← metOf_snoc, ← e2, rootsAt_next HR.out] at h2
        refine ⟨?_, HR2.out.2⟩
        rw [rootsAt_len]
        rw [← HNN.out, ← metOf_snoc, ← e2]
        exact h2
      have hws2 := HWS.out.step HST.out
      have hb0 : b < W0.heap.size ∧ b ∉ wkF Bw Bm sw0 sl0 := ⟨HROW.out.1.lt rfl, (HX3.out b rfl).1⟩
      have hwk3 := HWK2.out.chg hc3 (fun k hk => by
        simp only [List.mem_singleton]
        rintro rfl
        rcases hws2.wkF hk with e | e
        · exact hb0.2 e
        · omega)
      have hws3 := hws2.chg hc3 (fun k hk => .inl (by simp only [List.mem_singleton] at hk; subst hk; simp [Value.ownBlock]))
      have HR3 := Lib.hid hr3
      have HWK3 := Lib.hid hwk3
      have HWS3 := Lib.hid hws3
      clear hr3 hwk3 hws3 hws2 hc3
      generalize (w2.setCell ⟨b, i * 3 + 2, none⟩ (.int .i64 nn)).drew = w3 at HR3 HWK3 HWS3 ⊢
      go_roundg (gk - 1)
      case measure => have := HI.out; have := HLT.out; omega
      case rel => exact ⟨i + 1, sw2, sl2, by go_num, by have := HI.out; have := HLT.out; omega, by rw [e2, metOf_snoc]; exact HWK3.out, HWS3.out, HR3.out⟩
    · have i1 : ¬ (i : Int) < (s.length : Int) := by omega
      have hz : i = s.length := by have := HI.out; omega
      subst hz
      have hw := HWK1.out
      have hr := HRW.out
      rw [List.take_length] at hw hr
      unfold rootsAt at hr
      rw [List.take_length, List.drop_length, List.append_nil] at hr
      have HW := Lib.hid hw
      have HR := Lib.hid hr
      clear hw hr
      go_wp2
      exact HGO.out _ _ _ _ _ _ _ _ _ _ _ _ _ _ _ _ _ _ _ _ _ _ _ _ _ _ _ HW.out HWS.out HR.out
end Go.Proofs.YtenikoecnfbfoaaDoor
/- Layer 8 in plain words: what stands in a directory's value, step by step; a root more in a row. -/
namespace Go.Proofs.YtenikoecnfbfoaaDoor
open Go.RowKit
set_option linter.unusedVariables false
set_option linter.unusedSimpArgs false
open Gr (RT gather rootOf rootsT)
namespace Gr
theorem gather_go {f : Nat} {s s2 : ByteArray} {k2 n2 : Int} {a b c y : VT} {out : List RT} (h : out.length ≤ 100) : gather (f + 1) (.node 3 1 s [.node k2 n2 s2 [a, b, c], y]) out = gather f y (out ++ [rootOf a b c]) := by
  rw [gather, if_pos ⟨rfl, rfl, h⟩]
theorem gather_bad {f : Nat} {s s2 : ByteArray} {k2 n2 : Int} {ks : List VT} {y : VT} {out : List RT} (h : out.length ≤ 100) (hk : ks.length ≠ 3) : gather (f + 1) (.node 3 1 s [.node k2 n2 s2 ks, y]) out = none := by
  rw [gather, if_pos ⟨rfl, rfl, h⟩]
  intro a b c e
  subst e
  exact hk rfl
theorem gather_stop {f : Nat} {k n : Int} {s : ByteArray} {ks : List VT} {out : List RT} (h : ¬ (k = 3 ∧ n = 1 ∧ ks.length = 2 ∧ out.length ≤ 100)) : gather (f + 1) (.node k n s ks) out = some out := by
  match ks with
  | [] => simp [gather]
  | [x] => simp [gather]
  | [.node k2 n2 s2 kk, y] =>
    unfold gather
    exact if_neg (fun g => h ⟨g.1, g.2.1, rfl, g.2.2⟩)
  | a :: b :: c :: l => simp [gather]
end Gr
theorem kids2 {la : List VT} (h : la.length = 2) : ∃ t y, la = [t, y] := by
  match la, h with
  | [t, y], _ => exact ⟨t, y, rfl⟩
theorem kids3 {la : List VT} (h : la.length = 3) : ∃ a b c, la = [a, b, c] := by
  match la, h with
  | [a, b, c], _ => exact ⟨a, b, c, rfl⟩
theorem step_root {T U : TypeId} (hU : Tryd.prog.underlying U = some (.slice T)) (hi : (Tryd.prog.info? T).map (fun i => (i.zero, i.size, i.bytes)) = some (some (.agg #[.string ⟨#[]⟩, .string ⟨#[]⟩, .int .i64 0]), 3, 40))
    {w : World} {ops : Array Oper} {o : Oper} {a : Act} {K : Act → World → Prop} {Q : Exit → Act → World → Prop} {E : Prop} (hgd : o.guard = none) (s x : Operand)
    (ho : o.op = .call { callee := .builtin .append, args := #[s, x], argTypes := #[U, U] }) {N : Nat} {v : Value} {l : List RT} {r : RT} {ad : Addr} {c : Nat} (hs : a.eval s = v) (hr : RtRow T w N v l) (hx : a.eval x = .slice (some ad) 1 c)
    (hnews : ∀ j u, (rtcells [r])[j]? = some u → w.cell? (ad.add j) = some u) (hN : N ≤ w.heap.size) (h63 : l.length ≤ 1000000)
    (h : ∀ ao cap w', RtRow T w' N (.slice ao (l.length + 1) cap) (l ++ [r]) → Below N w w' → Chg v.ownBlock.toList w w' → K (a.put o.dst (.slice ao (l.length + 1) cap)) w') : if Region.wanted o (yielded ops a.tmps) = true then Oper.wp Tryd.prog o a w K Q else E := by
  refine step_rows (n := l.length) (m := 1) (news := rtcells [r]) hgd s x U ho hU hi rfl (by omega) hs hr.1 hx (.inr ⟨ad, c, rfl, hnews⟩) (by rw [rtcells_length]; rfl) (rtcells_one _) (by omega) (by omega) ?_
  intro ao cap w' hr' ha
  have hb := ha.chg.below hN (fun k hk => hr.2 k (by simpa using hk))
  refine h ao cap w' ⟨?_, fun k hk => ?_⟩ hb ha.chg
  · rw [rtcells_append, List.length_append, List.length_singleton]; exact hr'
  · rcases ha.out hk with e | e
    · exact hr.2 k e
    · omega
theorem cell_three_new (w : World) (a b c : Value) (t : TypeId) : ∀ (j : Nat) (u : Value), [a, b, c][j]? = some u → (w.alloc (.cells #[a, b, c] t)).cell? (Addr.add ⟨w.heap.size, 0, none⟩ j) = some u := by
  intro j u hj
  have hb := World.alloc_heap_new w (.cells #[a, b, c] t)
  rw [show (Addr.add ⟨w.heap.size, 0, none⟩ j) = ⟨w.heap.size, j, none⟩ by unfold Addr.add; split <;> simp_all]
  unfold World.cell?
  rw [hb]
  show (#[a, b, c] : Array Value)[j]? = some u
  rw [← Array.getElem?_toList]
  exact hj
/-- Roots, ended. -/
def RootsEnd (T : TypeId) (w : World) (r : Option (List RT)) (e : Ending) (w' : World) : Prop :=
  ∃ vo, e = .returned (.tuple #[vo, .int .i64 (if r.isSome then 0 else 2)]) ∧ (∀ out, r = some out → RtRow T w' w.heap.size vo out) ∧ (r = none → vo = .slice none 0 0) ∧ Below w.heap.size w w'
/-- The loop's state: the box of the value that is looked at, the roots so far. -/
def RsI (T : TypeId) (w : World) (P : Nat → Prop) (v : VT) (vc : Array Value) (gk : Nat) (s4 : Value) (wr : World) : Prop :=
  ∃ (k n : Int) (s : ByteArray) (l : List VT) (ao : Option Addr) (cap : Nat) (out : List RT), 1 ≤ gk ∧ gk + out.length = 102 ∧ RtRow T wr (w.heap.size + 2) s4 out ∧ wr.heap[w.heap.size]? = some (.cells vc 26 (0, 0)) ∧
    wr.heap[w.heap.size + 1]? = some (.cells #[.int .i64 k, .int .i64 n, .string s, .slice ao l.length cap] 26 (0, 0)) ∧ ValIs wr P (.node k n s l) (.agg #[.int .i64 k, .int .i64 n, .string s, .slice ao l.length cap]) ∧
    gather 102 v [] = gather gk (.node k n s l) out ∧ Below w.heap.size w wr
end Go.Proofs.YtenikoecnfbfoaaDoor
/- Layer 8: rows of values that lie elsewhere; numbers that a value names. -/
namespace Go.Proofs.YtenikoecnfbfoaaDoor
open Go.RowKit
set_option linter.unusedVariables false
set_option linter.unusedSimpArgs false
mutual
theorem refs_wf {w : World} {P : Nat → Prop} : ∀ (t : VT) (v : Value), ValIs w P t v → ∀ n ∈ t.refs, (Lit.int .i64 n).wf = true
  | .node k n s l, v, h => by
    unfold ValIs at h
    obtain ⟨ao, cap, rfl, _, _, _, _, hn, _, hk⟩ := h
    intro m hm
    rw [VT.refs_node, List.mem_append] at hm
    rcases hm with hm | hm
    · split at hm
      · rw [List.mem_singleton.1 hm]; exact hn
      · cases hm
    · exact refsL_wf l ao 0 hk m hm
theorem refsL_wf {w : World} {P : Nat → Prop} : ∀ (l : List VT) (ao : Option Addr) (j : Nat), KidsAt w P l ao j → ∀ n ∈ VT.refsL l, (Lit.int .i64 n).wf = true
  | [], _, _, _ => by rw [VT.refsL_nil]; intro n hn; cases hn
  | t :: l, ao, j, h => by
    unfold KidsAt at h
    obtain ⟨⟨_, _, _, _, _, _, _, _, _, _, _, _, hv⟩, hr⟩ := h
    intro n hn
    rw [VT.refsL_cons, List.mem_append] at hn
    rcases hn with hn | hn
    · exact refs_wf t _ hv n hn
    · exact refsL_wf l ao (j + 1) hr n hn
end
/-- A row of values; what they name lies in the blocks P. -/
def VRow (w : World) (N : Nat) (P : Nat → Prop) (v : Value) (l : List VT) : Prop :=
  ∃ ps : List (Option Addr × Nat), ps.length = l.length ∧ RowZ w 26 4 v l.length (kcells l ps) ∧ (∀ k, v.ownBlock = some k → N ≤ k) ∧
    ∀ (i : Nat) (t : VT) (p : Option Addr × Nat), l[i]? = some t → ps[i]? = some p → ValIs w P t (vval t p.1 p.2)
section
variable {w w' : World} {N : Nat} {P : Nat → Prop} {v : Value} {l : List VT}
theorem VRow.nil (w : World) (N : Nat) (P : Nat → Prop) : VRow w N P (.slice none 0 0) [] := ⟨[], rfl, RowZ.nil _ _ _, fun k h => by simp [Value.ownBlock] at h, fun i t p h => by cases h⟩
theorem VRow.lt (h : VRow w N P v l) {k : Nat} (hk : v.ownBlock = some k) : k < w.heap.size := by obtain ⟨_, _, h, _⟩ := h; exact h.lt hk
theorem VRow.own (h : VRow w N P v l) {k : Nat} (hk : v.ownBlock = some k) : N ≤ k := by obtain ⟨_, _, _, h, _⟩ := h; exact h k hk
theorem VRow.chg {F : List Nat} (h : VRow w N P v l) (hc : Chg F w w') (hv : ∀ k, v.ownBlock = some k → k ∉ F) (hP : ∀ b, P b → b < w.heap.size ∧ b ∉ F) : VRow w' N P v l := by
  obtain ⟨ps, h1, h2, h3, h4⟩ := h
  exact ⟨ps, h1, h2.chg hc hv, h3, fun i t p ht hp => (h4 i t p ht hp).chg hc hP⟩
theorem VRow.mono {Q : Nat → Prop} (h : VRow w N P v l) (hPQ : ∀ b, P b → Q b) : VRow w N Q v l := by
  obtain ⟨ps, h1, h2, h3, h4⟩ := h
  exact ⟨ps, h1, h2, h3, fun i t p ht hp => (h4 i t p ht hp).mono hPQ⟩
theorem VRow.form (h : VRow w N P v l) : ∃ ao cap, v = .slice ao l.length cap := by
  obtain ⟨ps, h1, h2, _⟩ := h
  obtain ⟨ao, cap, e, _⟩ := h2.form
  exact ⟨ao, cap, e⟩
theorem VRow.kids {Q : Nat → Prop} (h : VRow w N P v l) (hPQ : ∀ b, P b → Q b) (hv : ∀ k, v.ownBlock = some k → Q k) : ∃ ao cap, v = .slice ao l.length cap ∧ l.length ≤ cap ∧ cap ≤ maxLen ∧ (ao = none → cap = 0) ∧ KidsAt w Q l ao 0 := by
  obtain ⟨ps, h1, h2, h3, h4⟩ := h
  obtain ⟨ao, cap, rfl, hle, hm, hn, hs⟩ := h2.form
  refine ⟨ao, cap, rfl, hle, hm, fun e => (hn e).2, KidsAt.mk fun i t ht => ?_⟩
  have hil := (List.getElem?_eq_some_iff.1 ht).1
  obtain ⟨p, hp⟩ : ∃ p, ps[i]? = some p := ⟨_, List.getElem?_eq_getElem (by omega)⟩
  cases ao with
  | none => have := (hn rfl).1; omega
  | some a =>
    obtain ⟨g, rfl, hg, hgb⟩ := hs a rfl
    have hlen := kcells_length h1
    have c : ∀ r, r < 4 → w.cell? ⟨g, i * 4 + r, none⟩ = (kcell t p)[r]? := fun r hr => by
      rw [← kcells_get ht hp hr]
      exact h2.cellAt _ (by rw [hlen]; omega)
    refine ⟨g, 0, _, _, _, _, rfl, hv g hgb, ?_, ?_, ?_, ?_, (h4 i t p ht hp).mono hPQ⟩
    · rw [Nat.zero_add, Nat.zero_add]; exact c 0 (by omega)
    · rw [Nat.zero_add, Nat.zero_add]; exact c 1 (by omega)
    · rw [Nat.zero_add, Nat.zero_add]; exact c 2 (by omega)
    · rw [Nat.zero_add, Nat.zero_add]; exact c 3 (by omega)
end
theorem kcell_oneV (t : VT) (p : Option Addr × Nat) : ∀ u ∈ kcell t p, u.oneCell' = true := by
  intro u hu
  simp only [kcell, List.mem_cons, List.not_mem_nil, or_false] at hu
  rcases hu with rfl | rfl | rfl | rfl <;> rfl
/-- 'append(l, v)': the value's box is a block of its own. -/
theorem wpList_appv {w : World} {ops : Array Oper} {rest : List Oper} {o : Oper} {a : Act} {Q : Exit → Act → World → Prop} (hgd : o.guard = none) (s x : Operand)
    (ho : o.op = .call { callee := .builtin .append, args := #[s, x], argTypes := #[24, 24] }) {N : Nat} {P : Nat → Prop} {v : Value} {l : List VT} {t : VT} {p : Option Addr × Nat} {ad : Addr} {c : Nat} (hs : a.eval s = v) (hr : VRow w N P v l) (hx : a.eval x = .slice (some ad) 1 c)
    (hnews : ∀ j u, (kcell t p)[j]? = some u → w.cell? (ad.add j) = some u) (ht : ValIs w P t (vval t p.1 p.2)) (hN : N ≤ w.heap.size) (h63 : l.length ≤ 1000000) (hP : ∀ b, P b → b < w.heap.size ∧ v.ownBlock ≠ some b)
    (h : ∀ ao cap w', VRow w' N P (.slice ao (l.length + 1) cap) (l ++ [t]) → OwnStep w v w' (.slice ao (l.length + 1) cap) → wpList Tryd.prog ops Q rest (a.put o.dst (.slice ao (l.length + 1) cap)) w') : wpList Tryd.prog ops Q (o :: rest) a w := by
  obtain ⟨ps, h1, h2, h3, h4⟩ := hr
  refine wpList_rows hgd s x 24 ho Tryd.underlying24 infoV rfl (by omega) hs h2 hx (.inr ⟨ad, c, rfl, hnews⟩) (by simp [kcell]) (kcell_oneV t p) (by omega) (by omega) ?_
  intro ao cap w' hr' ha
  have hc := ha.chg
  refine h ao cap w' ⟨ps ++ [p], by simp [h1], by rw [kcells_snoc h1, List.length_append, List.length_singleton]; exact hr', fun k hk => ?_, fun i u q hu hq => ?_⟩ ⟨hc, ?_⟩
  · rcases ha.out hk with e | e
    · exact h3 k e
    · omega
  · have keep : ∀ {u : VT} {x : Value}, ValIs w P u x → ValIs w' P u x := fun hv => hv.chg hc (fun b hb => ⟨(hP b hb).1, by simpa using (hP b hb).2⟩)
    by_cases hi : i < l.length
    · rw [List.getElem?_append_left hi] at hu
      rw [List.getElem?_append_left (by omega)] at hq
      exact keep (h4 i u q hu hq)
    · have : i = l.length := by
        have := (List.getElem?_eq_some_iff.1 hu).1
        simp at this; omega
      subst this
      rw [List.getElem?_append_right (Nat.le_refl _), Nat.sub_self] at hu
      rw [List.getElem?_append_right (by omega), h1, Nat.sub_self] at hq
      cases hu; cases hq
      exact keep ht
  · rcases ha.2 with e | e
    · exact .inl e
    · exact .inr ⟨_, e, Nat.le_refl _⟩
end Go.Proofs.YtenikoecnfbfoaaDoor
/- Layer 8: Make's loop over what is met, over letters. -/
namespace Go.Proofs.YtenikoecnfbfoaaDoor
open Go.RowKit Go.Maps
set_option linter.unusedVariables false
set_option linter.unusedSimpArgs false
open Gr (RT meetT pairs numOf bfs findO)
noncomputable def mkB4 : Code := ((Tryd.f4.body.bind (blkOf 4)).getD .skip)
/-- What the map of all objects gives. -/
def AllAt (w : World) (P : Nat → Prop) (objs : List (Int × VT)) (f : Int → Option Value) : Prop :=
  ∀ id, match findO objs id with
    | some t => ∃ ao cap, f id = some (vval t ao cap) ∧ ValIs w P t (vval t ao cap)
    | none => f id = none
structure Mk4I (W0 : World) (N Bw Ba Bm : Nat) (sw0 sl0 : Value) (objs : List (Int × VT)) (met0 : List Int) (i : Nat) (met : List Int) (vals : List VT) (sw sl sv : Value) (wr : World) : Prop where
  wk : WkAt wr N Bw Ba Bm sw sl met
  ws : WkS [] W0 wr Bw Bm sw0 sl0 sw sl
  vr : VRow wr W0.heap.size (fun b => b < N) sv vals
  vx : ∀ k, sv.ownBlock = some k → k ∉ wkF Bw Bm sw sl
  bf : bfs objs (objs.length + 1) 0 met0 [] = bfs objs (objs.length + 1 - i) i met vals
  nd : met.Nodup
  il : i ≤ met.length
  fd : ∀ j, j < i → ∃ v, findO objs (met.getD j 0) = some v
  ml : met.length ≤ 100 + i * 1000
  vl : vals.length = i
def Mk4R (W0 : World) (N Bw Ba Bm : Nat) (sw0 sl0 : Value) (objs : List (Int × VT)) (met0 : List Int) (gk : Nat) (s14 s15 : Value) (wr : World) : Prop :=
  ∃ (i : Nat) (met : List Int) (vals : List VT) (sw sl : Value), s15 = .int .i64 (i : Int) ∧ i + gk = objs.length + 1 ∧ Mk4I W0 N Bw Ba Bm sw0 sl0 objs met0 i met vals sw sl s14 wr
theorem Mk4I.small {W0 : World} {N Bw Ba Bm : Nat} {sw0 sl0 : Value} {objs : List (Int × VT)} {met0 : List Int} {i : Nat} {met : List Int} {vals : List VT} {sw sl sv : Value} {wr : World} (h : Mk4I W0 N Bw Ba Bm sw0 sl0 objs met0 i met vals sw sl sv wr) : i ≤ objs.length := Gr.bfs_bound h.nd h.il h.fd
/-- The inner loop: what a value names is met. -/
def Mk6R (W1 : World) (N Bw Ba Bm : Nat) (sw1 sl1 : Value) (met : List Int) (refs : List Int) (gk : Nat) (s115 : Value) (wr : World) : Prop :=
  ∃ (j : Nat) (sw sl : Value), s115 = .int .i64 (j : Int) ∧ j + gk = refs.length ∧ WkAt wr N Bw Ba Bm sw sl ((refs.take j).foldl meetT met) ∧ WkStep W1 wr Bw Bm sw1 sl1 sw sl
theorem wkF_ge {w : World} {N Bw Ba Bm : Nat} {sw sl : Value} {met : List Int} (h : WkAt w N Bw Ba Bm sw sl met) {k : Nat} (hk : k ∈ wkF Bw Bm sw sl) : N ≤ k := by
  simp only [wkF, List.mem_cons, List.mem_append, Option.mem_toList] at hk
  rcases hk with rfl | rfl | e | e
  · exact h.n1
  · exact h.n2
  · exact h.wt.2 k e
  · exact h.pr.2 k e
theorem WkS.below {w w' : World} {N Bw Ba Bm : Nat} {sw sl sw' sl' : Value} {met : List Int} (hk : WkAt w N Bw Ba Bm sw sl met) (h : WkS [] w w' Bw Bm sw sl sw' sl') : Below N w w' :=
  h.1.below hk.n0 (fun k hm => by rw [List.append_nil] at hm; exact wkF_ge hk hm)
theorem WkStep.wkF {w w' : World} {Bw Bm : Nat} {sw sl sw' sl' : Value} (h : WkStep w w' Bw Bm sw sl sw' sl') {k : Nat} (hk : k ∈ wkF Bw Bm sw' sl') : k ∈ wkF Bw Bm sw sl ∨ w.heap.size ≤ k := by
  simp only [Go.Proofs.YtenikoecnfbfoaaDoor.wkF, List.mem_cons, List.mem_append, Option.mem_toList] at hk ⊢
  rcases hk with e | e | e | e
  · exact .inl (.inl e)
  · exact .inl (.inr (.inl e))
  · exact (h.2.1 k e).imp (fun h => .inr (.inr (.inl h))) id
  · exact (h.2.2 k e).imp (fun h => .inr (.inr (.inr h))) id
theorem WkStep.preC {w w1 w2 : World} {Bw Bm : Nat} {sw sl sw' sl' : Value} (h : WkStep w1 w2 Bw Bm sw sl sw' sl') (hc : Chg [] w w1) : WkStep w w2 Bw Bm sw sl sw' sl' :=
  ⟨(hc.mono (by simp)).trans h.1 (fun k hk => .inl hk), fun k hk => (h.2.1 k hk).imp_right (fun h => Nat.le_trans hc.size h), fun k hk => (h.2.2 k hk).imp_right (fun h => Nat.le_trans hc.size h)⟩
theorem cell_four_newG (w : World) (a b c d : Value) (t : TypeId) : ∀ (j : Nat) (u : Value), [a, b, c, d][j]? = some u → (w.alloc (.cells #[a, b, c, d] t)).cell? (Addr.add ⟨w.heap.size, 0, none⟩ j) = some u := by
  intro j u hj
  have hb := World.alloc_heap_new w (.cells #[a, b, c, d] t)
  rw [show (Addr.add ⟨w.heap.size, 0, none⟩ j) = ⟨w.heap.size, j, none⟩ by unfold Addr.add; split <;> simp_all]
  unfold World.cell?
  rw [hb]
  show (#[a, b, c, d] : Array Value)[j]? = some u
  rw [← Array.getElem?_toList]
  exact hj
theorem res_set {X : World} {H : Nat} {a b c a' b' c' : Value} {T T' : TypeId} (h1 : X.heap[H]? = some (.cells #[a, b] T (0, 0))) (h2 : X.heap[H + 1]? = some (.cells #[c] T' (0, 0))) :
    (((X.setCell ⟨H, 0, none⟩ a').setCell ⟨H, 1, none⟩ b').setCell ⟨H + 1, 0, none⟩ c').heap[H]? = some (.cells #[a', b'] T (0, 0)) ∧ (((X.setCell ⟨H, 0, none⟩ a').setCell ⟨H, 1, none⟩ b').setCell ⟨H + 1, 0, none⟩ c').heap[H + 1]? = some (.cells #[c'] T' (0, 0)) ∧
    Chg [H, H + 1] X (((X.setCell ⟨H, 0, none⟩ a').setCell ⟨H, 1, none⟩ b').setCell ⟨H + 1, 0, none⟩ c') := by
  have e1 := heap_setCell_same X H 0 #[a, b] T a' h1
  have e2 := heap_setCell_same _ H 1 _ T b' e1
  have e3 := (Below.heap_setCell _ ⟨H + 1, 0, none⟩ c' H (by simp)).trans e2
  have f1 := (Below.heap_setCell X ⟨H, 0, none⟩ a' (H + 1) (by simp)).trans h2
  have f2 := (Below.heap_setCell _ ⟨H, 1, none⟩ b' (H + 1) (by simp)).trans f1
  have f3 := heap_setCell_same _ (H + 1) 0 _ T' c' f2
  exact ⟨e3, f3, (((Chg.refl _ _).setCell (.inl (by simp)) _).setCell (.inl (by simp)) _).setCell (.inl (by simp)) _⟩
set_option maxRecDepth 100000 in
set_option maxHeartbeats 8000000 in
theorem mk4 {K : Exit → Act → World → Prop} {ds : List Deferred} {W0 : World} {N Bw Ba Bm Bp H nv : Nat} {sw0 sl0 : Value} {objs : List (Int × VT)} {met0 : List Int} {fa : Int → Option Value} {u0 u1 u2 u3 u6 u7 u9 u10 u11 u12 u13 u16 u17 u18 u19 u20 u21 u22 u23 u24 u25 u26 u27 u28 u29 u30 u31 u32 u33 u34 u35 u36 u37 u38 u39 u40 u41 u42 u43 u44 u45 u46 u47 u48 u49 u50 u51 u52 u53 u54 u55 u56 u57 u58 u59 u60 u61 u62 u63 u64 u65 u66 u67 u68 u69 u70 u71 u72 u73 u74 u75 u76 u77 u78 u79 u80 u81 u82 u83 u84 u85 u86 u87 u88 u89 u90 u91 u92 u93 u94 u95 u96 u97 u98 u99 u100 u101 u102 u103 u104 u105 u106 u107 u108 u109 u110 u111 u112 u113 u114 u115 u116 u117 u118 u119 u120 u121 u122 u123 u124 u125 u126 u127 u128 u129 u130 u131 u132 u133 u134 u135 u136 u137 u138 u139 u140 u141 u142 u143 u144 u145 u146 u147 u148 u149 : Value}
    (hwk : WkAt W0 N Bw Ba Bm sw0 sl0 met0) (hbp : W0.heap[Bp]? = some (.cells #[.pointer (some ⟨Bw, 0, none⟩)] 42 (0, 0))) (hva : VMap Tryd.prog 3 W0 Ba nv fa) (hall : AllAt W0 (fun b => b < N) objs fa)
    (hbH : W0.heap[H]? = some (.cells #[.slice none 0 0, .slice none 0 0] 31 (0, 0))) (hbE : W0.heap[H + 1]? = some (.cells #[.int .i64 0] 32 (0, 0))) (hHN : H ≤ N ∧ H ∉ wkF Bw Bm sw0 sl0 ∧ H + 1 ∉ wkF Bw Bm sw0 sl0)
    (hx1 : Bp ∉ wkF Bw Bm sw0 sl0) (hx2 : Ba ∉ wkF Bw Bm sw0 sl0) (hol : objs.length ≤ 100) (hm0 : met0.length ≤ 100) (hnd : met0.Nodup) (hsz : ∀ o ∈ objs, o.2.sz ≤ 1000)
    (hgo : ∀ (v14 v15 v16 v17 v19 v85 v86 v87 v88 v89 v90 v91 v92 v93 v94 v95 v96 v97 v98 v99 v100 v101 v102 v103 v104 v105 v106 v107 v108 v109 v110 v111 v112 v113 v114 v115 v116 v117 v118 v119 v120 v121 v122 v123 v124 v125 v126 : Value) (W : World) (sw sl : Value) (met : List Int) (vals : List VT), bfs objs (objs.length + 1) 0 met0 [] = some (met, vals) → WkAt W N Bw Ba Bm sw sl met → WkS [] W0 W Bw Bm sw0 sl0 sw sl → VRow W W0.heap.size (fun b => b < N) v14 vals → (∀ k, v14.ownBlock = some k → k ∉ wkF Bw Bm sw sl) → met.length ≤ 200000 → vals.length ≤ 100 → K .normal { tmps := #[u0, u1, u2, u3, .pointer (some ⟨H, 0, none⟩), .pointer (some ⟨H + 1, 0, none⟩), u6, u7, .pointer (some ⟨Bp, 0, none⟩), u9, u10, u11, u12, u13, v14, v15, v16, v17, u18, v19, u20, u21, u22, u23, u24, u25, u26, u27, u28, u29, u30, u31, u32, u33, u34, u35, u36, u37, u38, u39, u40, u41, u42, u43, u44, u45, u46, u47, u48, u49, u50, u51, u52, u53, u54, u55, u56, u57, u58, u59, u60, u61, u62, u63, u64, u65, u66, u67, u68, u69, u70, u71, u72, u73, u74, u75, u76, u77, u78, u79, u80, u81, u82, u83, u84, v85, v86, v87, v88, v89, v90, v91, v92, v93, v94, v95, v96, v97, v98, v99, v100, v101, v102, v103, v104, v105, v106, v107, v108, v109, v110, v111, v112, v113, v114, v115, v116, v117, v118, v119, v120, v121, v122, v123, v124, v125, v126, u127, u128, u129, u130, u131, u132, u133, u134, u135, u136, u137, u138, u139, u140, u141, u142, u143, u144, u145, u146, u147, u148, u149], defers := ds } W)
    (hno : bfs objs (objs.length + 1) 0 met0 [] = none → ∀ (v14 v15 v16 v17 v19 v85 v86 v87 v88 v89 v90 v91 v92 v93 v94 v95 v96 v97 v98 v99 v100 v101 v102 v103 v104 v105 v106 v107 v108 v109 v110 v111 v112 v113 v114 v115 v116 v117 v118 v119 v120 v121 v122 v123 v124 v125 v126 : Value) (W : World), W.heap[H]? = some (.cells #[.slice none 0 0, .slice none 0 0] 31 (0, 0)) → W.heap[H + 1]? = some (.cells #[.int .i64 5] 32 (0, 0)) → Below H W0 W → (∀ (D : Nat) o, W0.heap[D]? = some o → D ∉ wkF Bw Bm sw0 sl0 → D ≠ H → D ≠ H + 1 → W.heap[D]? = some o) → K .ret { tmps := #[u0, u1, u2, u3, .pointer (some ⟨H, 0, none⟩), .pointer (some ⟨H + 1, 0, none⟩), u6, u7, .pointer (some ⟨Bp, 0, none⟩), u9, u10, u11, u12, u13, v14, v15, v16, v17, u18, v19, u20, u21, u22, u23, u24, u25, u26, u27, u28, u29, u30, u31, u32, u33, u34, u35, u36, u37, u38, u39, u40, u41, u42, u43, u44, u45, u46, u47, u48, u49, u50, u51, u52, u53, u54, u55, u56, u57, u58, u59, u60, u61, u62, u63, u64, u65, u66, u67, u68, u69, u70, u71, u72, u73, u74, u75, u76, u77, u78, u79, u80, u81, u82, u83, u84, v85, v86, v87, v88, v89, v90, v91, v92, v93, v94, v95, v96, v97, v98, v99, v100, v101, v102, v103, v104, v105, v106, v107, v108, v109, v110, v111, v112, v113, v114, v115, v116, v117, v118, v119, v120, v121, v122, v123, v124, v125, v126, u127, u128, u129, u130, u131, u132, u133, u134, u135, u136, u137, u138, u139, u140, u141, u142, u143, u144, u145, u146, u147, u148, u149], defers := ds } W) :
    Code.wp Tryd.prog mkB4 K { tmps := #[u0, u1, u2, u3, .pointer (some ⟨H, 0, none⟩), .pointer (some ⟨H + 1, 0, none⟩), u6, u7, .pointer (some ⟨Bp, 0, none⟩), u9, u10, u11, u12, u13, .slice none 0 0, .int .i64 0, u16, u17, u18, u19, u20, u21, u22, u23, u24, u25, u26, u27, u28, u29, u30, u31, u32, u33, u34, u35, u36, u37, u38, u39, u40, u41, u42, u43, u44, u45, u46, u47, u48, u49, u50, u51, u52, u53, u54, u55, u56, u57, u58, u59, u60, u61, u62, u63, u64, u65, u66, u67, u68, u69, u70, u71, u72, u73, u74, u75, u76, u77, u78, u79, u80, u81, u82, u83, u84, u85, u86, u87, u88, u89, u90, u91, u92, u93, u94, u95, u96, u97, u98, u99, u100, u101, u102, u103, u104, u105, u106, u107, u108, u109, u110, u111, u112, u113, u114, u115, u116, u117, u118, u119, u120, u121, u122, u123, u124, u125, u126, u127, u128, u129, u130, u131, u132, u133, u134, u135, u136, u137, u138, u139, u140, u141, u142, u143, u144, u145, u146, u147, u148, u149], defers := ds } W0 := by
  have HGO := Lib.hid hgo
  have HNO := Lib.hid hno
  have HBP := Lib.hid hbp
  have HVA := Lib.hid hva
  have HALL := Lib.hid hall
  have HBH := Lib.hid hbH
  have HBE := Lib.hid hbE
  have HHN := Lib.hid hHN
  have HX1 := Lib.hid hx1
  have HX2 := Lib.hid hx2
  have HOL := Lib.hid hol
  have HSZ := Lib.hid hsz
  have HWK := Lib.hid hwk
  have h0 : Mk4I W0 N Bw Ba Bm sw0 sl0 objs met0 0 met0 [] sw0 sl0 (.slice none 0 0) W0 := ⟨hwk, WkS.refl _ _ _ _ _ _, VRow.nil _ _ _, (fun k hk => by simp [Value.ownBlock] at hk), by rw [Nat.sub_zero], hnd, Nat.zero_le _, (fun j hj => absurd hj (by omega)), by omega, rfl⟩
  have H0 := Lib.hid h0
  clear hgo hno hbp hva hall hbH hbE hHN hx1 hx2 hol hm0 hnd hsz hwk h0
  conv => arg 2; whnf
  go_wp2
  go_loopg [14, 15] (objs.length + 1) (fun gk s14 s15 wr => Mk4R W0 N Bw Ba Bm sw0 sl0 objs met0 gk s14 s15 wr)
  case atStart => exact ⟨0, met0, [], sw0, sl0, rfl, by omega, H0.out⟩
  case round =>
    obtain ⟨i, met, vals, sw, sl, rfl, hi, hI⟩ := hrel
    obtain ⟨av, cv, e14⟩ := hI.vr.form
    subst e14
    have hio := hI.small
    have HI := Lib.hid hI
    have HIG := Lib.hid hi
    have HIO := Lib.hid hio
    have HNI : Hid (∀ k, k < W0.heap.size → k ∉ wkF Bw Bm sw0 sl0 → k ∉ wkF Bw Bm sw sl) := fun k hk hn h => by
      rcases HI.out.ws.wkF h with e | e
      · exact hn e
      · omega
    have hpb := (HI.out.ws.block (lt_of_block HBP.out) HX1.out (by simp)).trans HBP.out
    have hwb := HI.out.wk.blk
    obtain ⟨aw, cw, esw, _⟩ := HI.out.wk.wt.form
    subst esw
    obtain ⟨m0, m1, m2, m3, mf⟩ := cells4 hwb
    have p0 : wr.cell? ⟨Bp, 0, none⟩ = some (.pointer (some ⟨Bw, 0, none⟩)) := by unfold World.cell?; rw [hpb]; rfl
    have HPB := Lib.hid hpb
    have i0 : (0 : Int) ≤ (i : Int) := by omega
    have il1 : (i : Int) ≤ 100 := by have := HOL.out; omega
    clear hI hi hio hpb hwb
    by_cases hlt : i < met.length
    · have i1 : (i : Int) < (met.length : Int) := by omega
      have HLT := Lib.hid hlt
      obtain ⟨id, hid⟩ : ∃ id, met[i]? = some id := ⟨_, List.getElem?_eq_getElem hlt⟩
      have HID := Lib.hid hid
      have hgd : met.getD i 0 = id := by simp [List.getD, hid]
      obtain ⟨gq, rfl, cq⟩ := HI.out.wk.wt.cell (i := i) hlt
      rw [hgd] at cq
      have HCQ := Lib.hid cq
      have hwid : (Lit.int .i64 id).wf = true := HI.out.wk.wf id (List.mem_of_getElem? hid)
      have hva : VMap Tryd.prog 3 wr Ba nv fa := HVA.out.chg HI.out.ws.1 (by rw [List.append_nil]; exact HX2.out)
      have HVA1 := Lib.hid hva
      have HGD := Lib.hid hgd
      have HWI := Lib.hid hwid
      have hall := HALL.out id
      have HBW := Lib.hid (WkS.below HWK.out HI.out.ws)
      have hlk : ∀ W, Chg [] wr W → (Instr.lookup 43 (.map (some Ba)) (.int .i64 id) true).run Tryd.prog W = .ok (.tuple #[(fa id).getD (.agg #[.int .i64 0, .int .i64 0, .string ⟨#[]⟩, .slice none 0 0]), .bool (fa id).isSome]) W := fun W hW => (HVA1.out.chg hW (by simp)).look Tryd.underlying3 Tryd.underlying43 (by kernel_rfl) HWI.out
      have hgqb : gq < wr.heap.size := HI.out.wk.wt.1.lt rfl
      have hS : ∀ W, Chg [] wr W → W.cell? ⟨Bp, 0, none⟩ = some (.pointer (some ⟨Bw, 0, none⟩)) ∧ W.cell? ⟨Bw, 0, none⟩ = some (.map (some Ba)) ∧ W.cell? ⟨Bw, 2, none⟩ = some (.slice (some ⟨gq, 0, none⟩) met.length cw) ∧ W.cell? ⟨gq, i, none⟩ = some (.int .i64 id) := fun W hW =>
        ⟨(hW.cell (p := ⟨Bp, 0, none⟩) (lt_of_block HPB.out) (by simp)).trans p0, (hW.cell (p := ⟨Bw, 0, none⟩) (lt_of_block HI.out.wk.blk) (by simp)).trans m0, (hW.cell (p := ⟨Bw, 2, none⟩) (lt_of_block HI.out.wk.blk) (by simp)).trans m2, (hW.cell (p := ⟨gq, i, none⟩) hgqb (by simp)).trans HCQ.out⟩
      have HS := Lib.hid hS
      cases hfo : findO objs id with
      | none =>
        rw [hfo] at hall
        simp only at hall
        have hlk2 : ∀ W, Chg [] wr W → (Instr.lookup 43 (.map (some Ba)) (.int .i64 id) true).run Tryd.prog W = .ok (.tuple #[.agg #[.int .i64 0, .int .i64 0, .string ⟨#[]⟩, .slice none 0 0], .bool false]) W := fun W hW => by have := hlk W hW; rw [hall] at this; exact this
        have hbn : bfs objs (objs.length + 1) 0 met0 [] = none := by
          rw [HI.out.bf, show objs.length + 1 - i = (objs.length - i) + 1 by have := HIO.out; omega, bfs, hid]
          simp only
          rw [hfo]
        have HBN := Lib.hid hbn
        have HLK := Lib.hid hlk2
        clear hall hlk hlk2 hbn hS cq hgd hwid hva hfo hid
        go_wp2
        go_region_held3 (fun w' => (w'.cell? ⟨Bp, 0, none⟩ = some (.pointer (some ⟨Bw, 0, none⟩)) ∧ w'.cell? ⟨Bw, 0, none⟩ = some (.map (some Ba)) ∧ w'.cell? ⟨Bw, 2, none⟩ = some (.slice (some ⟨gq, 0, none⟩) met.length cw) ∧ w'.cell? ⟨gq, i, none⟩ = some (.int .i64 id)) ∧ (Instr.lookup 43 (.map (some Ba)) (.int .i64 id) true).run Tryd.prog w' = .ok (.tuple #[.agg #[.int .i64 0, .int .i64 0, .string ⟨#[]⟩, .slice none 0 0], .bool false]) w')
          (first | exact ⟨HS.out _ (Chg.refl _ _), HLK.out _ (Chg.refl _ _)⟩ | exact ⟨HS.out _ ((Chg.refl _ _).drewN 1), HLK.out _ ((Chg.refl _ _).drewN 1)⟩ | exact ⟨HS.out _ (((Chg.refl _ _).drewN 1).alloc _), HLK.out _ (((Chg.refl _ _).drewN 1).alloc _)⟩ | exact ⟨HS.out _ (by repeat (first | exact (Chg.refl _ _).drewN 1 | refine Chg.setCell ?_ (.inr (by simp)) _ | refine Chg.alloc ?_ _)), HLK.out _ (by repeat (first | exact (Chg.refl _ _).drewN 1 | refine Chg.setCell ?_ (.inr (by simp)) _ | refine Chg.alloc ?_ _))⟩) (fail)
        all_goals
          have zH := (HI.out.ws.block (lt_of_block HBH.out) HHN.out.2.1 (by simp)).trans HBH.out
          have zE := (HI.out.ws.block (lt_of_block HBE.out) HHN.out.2.2 (by simp)).trans HBE.out
          have kH : ∀ o : Obj, ((wr.alloc o).cell? ⟨H, 0, none⟩ = some (.slice none 0 0) ∧ (wr.alloc o).cell? ⟨H, 1, none⟩ = some (.slice none 0 0) ∧ (wr.alloc o).cell? ⟨H + 1, 0, none⟩ = some (.int .i64 0)) ∧ (∀ j, (wr.alloc o).frozen? ⟨H, j, none⟩ = false) ∧ (∀ j, (wr.alloc o).frozen? ⟨H + 1, j, none⟩ = false) := fun o => by
            have h1 := (Below.heap_alloc wr o H (lt_of_block zH)).trans zH
            have h2 := (Below.heap_alloc wr o (H + 1) (lt_of_block zE)).trans zE
            exact ⟨⟨by simp [World.cell?, h1], by simp [World.cell?, h1], by simp [World.cell?, h2]⟩, fun j => by simp [World.frozen?, h1], fun j => by simp [World.frozen?, h2]⟩
          obtain ⟨⟨a0, a1, a2⟩, a3, a4⟩ := kH (.cells #[.int .i64 0, .int .i64 0, .string ⟨#[]⟩, .slice none 0 0] 26)
          have ZH := Lib.hid zH
          have ZE := Lib.hid zE
          clear kH zH zE
          go_wp2
          have g1 := (Below.heap_alloc wr (.cells #[.int .i64 0, .int .i64 0, .string ⟨#[]⟩, .slice none 0 0] 26) H (lt_of_block ZH.out)).trans ZH.out
          have g2 := (Below.heap_alloc wr (.cells #[.int .i64 0, .int .i64 0, .string ⟨#[]⟩, .slice none 0 0] 26) (H + 1) (lt_of_block ZE.out)).trans ZE.out
          obtain ⟨r1, r2, r3⟩ := res_set (a' := .slice none 0 0) (b' := .slice none 0 0) (c' := .int .i64 5) g1 g2
          refine HNO.out HBN.out _ _ _ _ _ _ _ _ _ _ _ _ _ _ _ _ _ _ _ _ _ _ _ _ _ _ _ _ _ _ _ _ _ _ _ _ _ _ _ _ _ _ _ _ _ _ _ _ r1 r2 ?_ (fun D o hD hDw h1 h2 => ?_)
          rotate_left
          · have hDl := (Array.getElem?_eq_some_iff.1 hD).1
            have hDr := HI.out.ws.block hDl hDw (by simp)
            have hDl2 := Nat.lt_of_lt_of_le hDl HI.out.ws.1.size
            exact (r3.block D (by simp; omega) (by simp; exact ⟨h1, h2⟩)).trans ((Below.heap_alloc _ _ _ hDl2).trans (hDr.trans hD))
          exact ((HBW.out.mono HHN.out.1).alloc (Nat.le_of_lt (lt_of_block ZH.out)) _).trans (((r3.below (by have := lt_of_block ZH.out; simp; omega) (by simp)).drew))
      | some t =>
        rw [hfo] at hall
        simp only at hall
        obtain ⟨at0, ct0, hfa, htv⟩ := hall
        have hlk2 : ∀ W, Chg [] wr W → (Instr.lookup 43 (.map (some Ba)) (.int .i64 id) true).run Tryd.prog W = .ok (.tuple #[.agg #[.int .i64 t.kind, .int .i64 t.num, .string t.text, .slice at0 t.kids.length ct0], .bool true]) W := fun W hW => by have := hlk W hW; rw [hfa] at this; exact this
        have HLK := Lib.hid hlk2
        have HTV := Lib.hid htv
        have HFO := Lib.hid hfo
        have htm : (id, t) ∈ objs := Gr.findO_mem hfo
        have hts := HSZ.out _ htm
        have HTS := Lib.hid hts
        clear hlk hlk2 hS cq hgd hwid hva hfo hid hfa htv htm hts
        go_wp2
        go_region_held3 (fun w' => (w'.cell? ⟨Bp, 0, none⟩ = some (.pointer (some ⟨Bw, 0, none⟩)) ∧ w'.cell? ⟨Bw, 0, none⟩ = some (.map (some Ba)) ∧ w'.cell? ⟨Bw, 2, none⟩ = some (.slice (some ⟨gq, 0, none⟩) met.length cw) ∧ w'.cell? ⟨gq, i, none⟩ = some (.int .i64 id)) ∧ (Instr.lookup 43 (.map (some Ba)) (.int .i64 id) true).run Tryd.prog w' = .ok (.tuple #[.agg #[.int .i64 t.kind, .int .i64 t.num, .string t.text, .slice at0 t.kids.length ct0], .bool true]) w')
          (first | exact ⟨HS.out _ (Chg.refl _ _), HLK.out _ (Chg.refl _ _)⟩ | exact ⟨HS.out _ ((Chg.refl _ _).drewN 1), HLK.out _ ((Chg.refl _ _).drewN 1)⟩ | exact ⟨HS.out _ (((Chg.refl _ _).drewN 1).alloc _), HLK.out _ (((Chg.refl _ _).drewN 1).alloc _)⟩ | exact ⟨HS.out _ (by repeat (first | exact (Chg.refl _ _).drewN 1 | refine Chg.setCell ?_ (.inr (by simp)) _ | refine Chg.alloc ?_ _)), HLK.out _ (by repeat (first | exact (Chg.refl _ _).drewN 1 | refine Chg.setCell ?_ (.inr (by simp)) _ | refine Chg.alloc ?_ _))⟩) (fail)
        all_goals
          have hbv := World.alloc_heap_new wr (.cells #[.int .i64 t.kind, .int .i64 t.num, .string t.text, .slice at0 t.kids.length ct0] 26)
          have hc1 : Chg [] wr ((wr.alloc (.cells #[.int .i64 t.kind, .int .i64 t.num, .string t.text, .slice at0 t.kids.length ct0] 26)).drew) := ((Chg.refl [] wr).alloc _).drewN 1
          have hs1 : ((wr.alloc (.cells #[.int .i64 t.kind, .int .i64 t.num, .string t.text, .slice at0 t.kids.length ct0] 26)).drew).heap.size = wr.heap.size + 1 := by simp
          have hbv1 : ((wr.alloc (.cells #[.int .i64 t.kind, .int .i64 t.num, .string t.text, .slice at0 t.kids.length ct0] 26)).drew).heap[wr.heap.size]? = some (.cells #[.int .i64 t.kind, .int .i64 t.num, .string t.text, .slice at0 t.kids.length ct0] 26 (0, 0)) := hbv
          generalize (wr.alloc (.cells #[.int .i64 t.kind, .int .i64 t.num, .string t.text, .slice at0 t.kids.length ct0] 26)).drew = W1 at hc1 hs1 hbv1 ⊢
          have hb1 : Below N W0 W1 := HBW.out.trans (hc1.below (Nat.le_trans HWK.out.n0 HBW.out.size) (by simp))
          have htv1 := HTV.out.below hb1 (fun b hb => hb)
          have hN1 : N ≤ W1.heap.size := Nat.le_trans HWK.out.n0 hb1.size
          have HRF := Lib.hid (refs_walk t.sz t (vval t at0 ct0) W1 (fun b => b < N) (Nat.le_refl _) htv1 (fun b hb => by omega) (by have := HTS.out; show t.sz ≤ _; exact Nat.le_trans this (by omega)))
          obtain ⟨t0, t1, t2, t3, _⟩ := hdr4_cells hbv1
          have HBV := Lib.hid hbv1
          have HC1 := Lib.hid hc1
          have HS1 := Lib.hid hs1
          have HTV1 := Lib.hid htv1
          have HRL : Hid (t.refs.length ≤ 1000) := Nat.le_trans (VT.refs_len t) HTS.out
          have HRW := Lib.hid (refs_wf t _ HTV.out)
          unfold vval at HRF
          clear hbv hc1 hs1 hbv1 hb1 htv1 hN1 m0 m1 m2 m3 mf p0
          generalize hrf : t.refs = rf at HRF HRL HRW
          have HRFE := Lib.hid hrf
          clear hrf
          go_upto_block 6 with (go_at_call 12; refine HRF.out.mono ?_; rintro e W2 ⟨vr, rfl, hir, hb2⟩; obtain ⟨ar, cr, er, _⟩ := hir.form; subst er; have HIR := Lib.hid hir; have HB2 := Lib.hid hb2; clear hir hb2)
        all_goals
          obtain ⟨wo, rfl⟩ : ∃ x, x = wr := ⟨wr, rfl⟩
          obtain ⟨gk0, rfl⟩ : ∃ x, x = gk := ⟨gk, rfl⟩
          have hwk2 : WkAt W2 N Bw Ba Bm (.slice (some ⟨gq, 0, none⟩) met.length cw) sl met := (HI.out.wk.chg HC1.out (by simp)).below HB2.out
          have HWK2 := Lib.hid hwk2
          have rl1 : (rf.length : Int) ≤ 1000 := by have := HRL.out; omega
          have hnl : ∀ k, k ∈ wkF Bw Bm (.slice (some ⟨gq, 0, none⟩) met.length cw) sl → k < wo.heap.size := fun k hk => HI.out.wk.lt hk
          have HNL := Lib.hid hnl
          clear hwk2 hnl t0 t1 t2 t3
          go_wp2
          go_loopg [115] rf.length (fun gk s115 wr => Mk6R W2 N Bw Ba Bm (.slice (some ⟨gq, 0, none⟩) met.length cw) sl met rf gk s115 wr)
          case atStart => exact ⟨0, _, _, rfl, by omega, HWK2.out, WkStep.refl _ _ _ _ _⟩
          case round =>
            obtain ⟨j, sw2, sl2, rfl, hj, hwkj, hstj⟩ := hrel
            have HJ := Lib.hid hj
            have HWJ := Lib.hid hwkj
            have HSJ := Lib.hid hstj
            have j0 : (0 : Int) ≤ (j : Int) := by omega
            have hzp := (hstj.1.block Bp (Nat.lt_of_lt_of_le (Nat.lt_of_lt_of_le (lt_of_block HPB.out) HC1.out.size) HB2.out.size) (HNI.out Bp (lt_of_block HBP.out) HX1.out)).trans ((HB2.out.block Bp (Nat.lt_of_lt_of_le (lt_of_block HPB.out) HC1.out.size)).trans ((HC1.out.block Bp (lt_of_block HPB.out) (by simp)).trans HPB.out))
            have p0 : wr.cell? ⟨Bp, 0, none⟩ = some (.pointer (some ⟨Bw, 0, none⟩)) := by unfold World.cell?; rw [hzp]; rfl
            clear hwkj hstj hzp hj
            by_cases hlt2 : j < rf.length
            · have j1 : (j : Int) < (rf.length : Int) := by omega
              obtain ⟨id2, hid2⟩ : ∃ x, rf[j]? = some x := ⟨_, List.getElem?_eq_getElem hlt2⟩
              have hirj : IRow wr W1.heap.size (.slice ar rf.length cr) rf := ⟨HIR.out.1.chg HSJ.out.1 (fun k hk h => by have h1 := HIR.out.2 k hk; have h2 := HNL.out k h; have h3 := HS1.out; omega), HIR.out.2⟩
              obtain ⟨gr, rfl, cj⟩ := hirj.cell hlt2
              have hgd2 : rf.getD j 0 = id2 := by simp [List.getD, hid2]
              rw [hgd2] at cj
              have hl2 : ((rf.take j).foldl meetT met).length ≤ 500000 := by
                have h1 := Gr.meets_len (rf.take j) met
                have h2 := HI.out.ml
                have h3 := HIO.out
                have h4 := HOL.out
                rw [List.length_take] at h1
                have h5 : i * 1000 ≤ 100 * 1000 := Nat.mul_le_mul_right _ (by omega)
                omega
              have HMT := Lib.hid (meet_any wr N Bw Ba Bm sw2 sl2 ((rf.take j).foldl meetT met) id2 HWJ.out hl2 (HRW.out id2 (List.mem_of_getElem? hid2)))
              have HLT2 := Lib.hid hlt2
              have HID2 := Lib.hid hid2
              clear hirj hgd2 hl2 hlt2 hid2
              go_wp2_with (go_at_call 11; refine HMT.out.mono ?_; rintro e w3 ⟨sw3, sl3, rfl, hwk3, hst3⟩; have HWK3 := Lib.hid hwk3; have HST3 := Lib.hid hst3; clear hwk3 hst3)
              go_roundg (gk - 1)
              case measure => have := HJ.out; have := HLT2.out; omega
              case rel => exact ⟨j + 1, sw3, sl3, by go_num, by have := HJ.out; have := HLT2.out; omega, by rw [List.take_add_one, HID2.out, List.foldl_append]; exact HWK3.out, HSJ.out.trans HST3.out⟩
            · have j1 : ¬ (j : Int) < (rf.length : Int) := by omega
              have hwj := HWJ.out
              rw [List.take_of_length_le (by omega)] at hwj
              have HW3 := Lib.hid hwj
              have hbsz : W1.heap.size ≤ wr.heap.size := Nat.le_trans HB2.out.size HSJ.out.1.size
              have hvl : wo.heap.size < W1.heap.size := by have := HS1.out; omega
              have hzv := (HSJ.out.1.block wo.heap.size (Nat.lt_of_lt_of_le hvl HB2.out.size) (fun h => by have := HNL.out _ h; omega)).trans ((HB2.out.block wo.heap.size hvl).trans HBV.out)
              obtain ⟨t0, t1, t2, t3, _⟩ := hdr4_cells hzv
              have hown := HI.out.vr
              have hvo : ∀ k, (Value.slice av vals.length cv).ownBlock = some k → k ∉ wkF Bw Bm (.slice (some ⟨gq, 0, none⟩) met.length cw) sl ∧ k < wo.heap.size ∧ W0.heap.size ≤ k := fun k hk => ⟨HI.out.vx k hk, hown.lt hk, hown.own hk⟩
              have hNw : N ≤ wo.heap.size := Nat.le_trans HWK.out.n0 HBW.out.size
              have hv1 := hown.chg HC1.out (by simp) (fun b hb => ⟨by omega, by simp⟩)
              have hv2 := hv1.chg (below_chg HB2.out) (by simp) (fun b hb => ⟨by omega, by simp⟩)
              have hv3 := hv2.chg HSJ.out.1 (fun k hk => (hvo k hk).1) (fun b hb => ⟨by have := HB2.out.size; omega, fun h => by have := wkF_ge HI.out.wk h; omega⟩)
              have HV3 := Lib.hid hv3
              have HVO := Lib.hid hvo
              have HNW := Lib.hid hNw
              have HBZ := Lib.hid hbsz
              have HVL := Lib.hid hvl
              have htv3 : ValIs wr (fun b => b < N) t (vval t at0 ct0) := (HTV1.out.below HB2.out (fun b hb => by omega)).chg HSJ.out.1 (fun b hb => ⟨by have := HB2.out.size; omega, fun h => by have := wkF_ge HI.out.wk h; omega⟩)
              have HT3 := Lib.hid htv3
              have vl1 : vals.length ≤ 100 := by have := HI.out.vl; have := HIO.out; have := HOL.out; omega
              have HVL1 := Lib.hid vl1
              clear hwj hbsz hvl hzv hown hvo hNw hv1 hv2 hv3 htv3 vl1
              go_wp2_with (at_builtin; refine wpList_appv (w := wr.alloc (.cells #[.int .i64 t.kind, .int .i64 t.num, .string t.text, .slice at0 t.kids.length ct0] 26)) (N := W0.heap.size) (P := fun b => b < N) (v := .slice av vals.length cv) (l := vals) (t := t) (p := (at0, ct0)) (ad := ⟨wr.heap.size, 0, none⟩) (c := 1) rfl _ _ rfl rfl (HV3.out.chg ((Chg.refl [] wr).alloc _) (by simp) (fun b hb => ⟨by have := HNW.out; have := HVL.out; have := HBZ.out; omega, by simp⟩)) rfl (cell_four_newG wr _ _ _ _ _) (HT3.out.chg ((Chg.refl [] wr).alloc _) (fun b hb => ⟨by have := HNW.out; have := HVL.out; have := HBZ.out; omega, by simp⟩)) (by have := HBW.out.size; have := HVL.out; have := HBZ.out; simp; omega) (by have := HVL1.out; omega) (fun b hb => ⟨by have := HNW.out; have := HVL.out; have := HBZ.out; simp; omega, fun h => by have := (HVO.out b h).2.2; have := HWK.out.n0; omega⟩) ?_; intro a9 c9 w9 hr9 ho9; have HR9 := Lib.hid hr9; have HO9 := Lib.hid ho9; clear hr9 ho9)
              go_roundg (gk0 - 1)
              case measure => have := HIG.out; have := HIO.out; omega
              case rel =>
                have hst0 : WkStep wo wr Bw Bm (.slice (some ⟨gq, 0, none⟩) met.length cw) sl sw2 sl2 := HSJ.out.preC (HC1.out.trans (below_chg HB2.out) (fun k hk => by cases hk))
                have hc9 : Chg (Value.slice av vals.length cv).ownBlock.toList wr w9 := ((Chg.refl _ wr).alloc _).trans HO9.out.1 (fun k hk => .inl hk)
                have hxx : ∀ k, k ∈ wkF Bw Bm sw2 sl2 → (Value.slice av vals.length cv).ownBlock ≠ some k := fun k hk h => by
                  rcases hst0.wkF hk with e | e
                  · exact (HVO.out k h).1 e
                  · have := (HVO.out k h).2.1; omega
                refine ⟨i + 1, rf.foldl meetT met, vals ++ [t], sw2, sl2, by go_num, by have := HIG.out; have := HIO.out; omega, ?_⟩
                exact {
                  wk := HW3.out.chg hc9 (fun k hk h => hxx k hk (by simpa using h))
                  ws := (HI.out.ws.step hst0).chg hc9 (fun k hk => .inr (HVO.out k (by simpa using hk)).2.2)
                  vr := HR9.out
                  vx := fun k hk h => by
                    rcases HO9.out.2 with e | ⟨q, e, hq⟩
                    · exact hxx k h (e ▸ hk)
                    · rw [hk] at e; cases e
                      have := HW3.out.lt h
                      simp at hq
                      omega
                  bf := by
                    rw [HI.out.bf, show objs.length + 1 - i = (objs.length - i) + 1 by have := HIO.out; omega, bfs, HID.out]
                    simp only
                    rw [HFO.out]
                    simp only
                    rw [HRFE.out, show objs.length + 1 - (i + 1) = objs.length - i by omega]
                  nd := Gr.meets_nodup HI.out.nd
                  il := by have := (Gr.meets_pre (l := rf) (met := met)).length_le; have := HLT.out; omega
                  fd := fun q hq => by
                    obtain ⟨x, hx⟩ := Gr.meets_pre (l := rf) (met := met)
                    have hlq : q < met.length := by have := HLT.out; omega
                    have he : (rf.foldl meetT met).getD q 0 = met.getD q 0 := by rw [← hx]; simp [List.getD, List.getElem?_append_left hlq]
                    rw [he]
                    by_cases hqi : q < i
                    · exact HI.out.fd q hqi
                    · have : q = i := by omega
                      subst this
                      exact ⟨t, by rw [HGD.out]; exact HFO.out⟩
                  ml := by have h1 := Gr.meets_len rf met; have h2 := HI.out.ml; have h3 := HRL.out; omega
                  vl := by rw [List.length_append, List.length_singleton, HI.out.vl] }
    · have i1 : ¬ (i : Int) < (met.length : Int) := by omega
      have hz : i = met.length := by have := HI.out.il; omega
      have hbn : bfs objs (objs.length + 1) 0 met0 [] = some (met, vals) := by
        rw [HI.out.bf, show objs.length + 1 - i = (objs.length - i) + 1 by have := HIO.out; omega, bfs, List.getElem?_eq_none (by omega)]
      have HBN := Lib.hid hbn
      have hq : met.length ≤ 200000 ∧ vals.length ≤ 100 := by have := HI.out.ml; have := HI.out.vl; have := HIO.out; have := HOL.out; constructor <;> omega
      have HQ := Lib.hid hq
      clear hbn hz hlt hq
      go_wp2
      exact HGO.out _ _ _ _ _ _ _ _ _ _ _ _ _ _ _ _ _ _ _ _ _ _ _ _ _ _ _ _ _ _ _ _ _ _ _ _ _ _ _ _ _ _ _ _ _ _ _ _ _ _ _ _ HBN.out HI.out.wk HI.out.ws HI.out.vr HI.out.vx HQ.out.1 HQ.out.2
end Go.Proofs.YtenikoecnfbfoaaDoor
