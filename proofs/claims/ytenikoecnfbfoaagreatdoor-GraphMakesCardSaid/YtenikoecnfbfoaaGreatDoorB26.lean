/- Texts of the proof, in build order: GrBackR, GrBackO, GrVal, GrDir, GrDir2, GrR13, GrRefS. -/
import Derived.Test.YtenikoecnfbfoaaGreatDoorB25
import Derived.Test.YtenikoecnfbfoaaGreatDoorB18
import Derived.Test.YtenikoecnfbfoaaGreatDoorB01
import Derived.Test.YtenikoecnfbfoaaGreatDoorB15
import Derived.Test.YtenikoecnfbfoaaGreatDoorB05
/- A row of roots, backward: the library's iterator. -/
namespace Go.Proofs.YtenikoecnfbfoaaGreatDoor
open Go.RowKit Go.Shelf Go.Maps
set_option linter.unusedVariables false
set_option linter.unusedSimpArgs false
open Gr (RT)
attribute [local go_sem] Oper.semAt_some

set_option maxRecDepth 100000 in
set_option maxHeartbeats 2000000 in
theorem backR1_in (F : Fence) (n : Nat) (h7 : F.fn 64) (hro : F.round = none) (hn : 1 ≤ n) (l Bs n₀ b off len cap : Nat) (zs : List RT) (hlen : zs.length = len) (hreach : len ≤ 1000000) (hb : b < n₀) (J Jx : List (Nat × RT) → World → Prop)
    (hY : ∀ pre x W, J pre W → pre.length < len → YieldAt F (n - 1) Tryz.prog l #[.int .i64 (x.1 : Int), .agg #[.string (bytes x.2.name), .string (bytes x.2.typ), .int .i64 x.2.id]] W fun e W' =>
      (e = .returned (.bool true) ∧ J (pre ++ [x]) W' ∧ KpB n₀ Bs W W') ∨ (e = .returned (.bool false) ∧ Jx (pre ++ [x]) W'))
    (W : World) (hBs : W.cell? ⟨Bs, 0, none⟩ = some (.slice (some ⟨b, off, none⟩) len cap)) (hc : ∀ j x, zs[j]? = some x → W.cell? ⟨b, off + j * 3, none⟩ = some (.string (bytes x.name)) ∧ W.cell? ⟨b, off + j * 3 + 1, none⟩ = some (.string (bytes x.typ)) ∧ W.cell? ⟨b, off + j * 3 + 2, none⟩ = some (.int .i64 x.id)) (h0 : J [] W) :
    CallsIn F n Tryz.prog 64 #[.func (.yield l) #[] #[], .pointer (some ⟨Bs, 0, none⟩)] W fun e W' => (∃ v, e = .returned v) ∧
      ((∃ ys : List (Nat × RT), ys.map (·.2) = zs.reverse ∧ J ys W') ∨ (∃ pre, True ∧ Jx pre W')) := by
  refine callsIn_of_wp Tryz.func64 rfl h7 ?_ hro
  simp only [Tryz.ntmps64, List.size_toArray, List.length_cons, List.length_nil, Nat.reduceAdd, Nat.reduceSub, Array.replicate_succ, Array.replicate_zero, List.push_toArray, List.append_toArray, List.nil_append, List.cons_append]
  have hw0 : IntKind.i64.wrap ((len : Int) - 1) = (len : Int) - 1 := by rw [IntKind.wrap_i64]; omega
  gi_wp2
  gi_loopw [3] (fun i wr => ∃ (m : Nat) (pre : List (Nat × RT)), i = .int .i64 ((m : Int) - 1) ∧ m ≤ len ∧ pre.length + m = len ∧ pre.map (·.2) = (zs.drop m).reverse ∧ J pre wr ∧ KpB n₀ Bs W wr)
    (fun i _ => (intOf i + 1).toNat)
  case atStart => exact ⟨len, [], rfl, Nat.le_refl _, by simp, by rw [List.drop_of_length_le (by omega)]; rfl, h0, Below.refl _ _, rfl⟩
  case round =>
    obtain ⟨m, pre, rfl, hm, hpl, hpre, hJs, hnx⟩ := hrel
    have hBs' : wr.cell? ⟨Bs, 0, none⟩ = some (.slice (some ⟨b, off, none⟩) len cap) := by
      rw [← hBs]
      unfold World.cell?
      rw [hnx.2]
    cases m with
    | zero =>
      gi_wp2
      go_end0
      exact ⟨⟨_, rfl⟩, .inl ⟨pre, by rw [hpre, List.drop_zero], hJs⟩⟩
    | succ m =>
      obtain ⟨x, hx⟩ : ∃ x, zs[m]? = some x := ⟨_, List.getElem?_eq_getElem (by omega)⟩
      obtain ⟨fn, tmps, assign, body, hy, hR⟩ := hY pre (m, x) wr hJs (by omega)
      dsimp only at hy
      obtain ⟨c0, c1, c2⟩ := hc m x hx
      replace c0 := (hnx.1.cell (p := ⟨b, off + m * 3, none⟩) hb).trans c0
      replace c1 := (hnx.1.cell (p := ⟨b, off + m * 3 + 1, none⟩) hb).trans c1
      replace c2 := (hnx.1.cell (p := ⟨b, off + m * 3 + 2, none⟩) hb).trans c2
      have e1 : (((m + 1 : Nat) : Int) - 1) = (m : Int) := by omega
      rw [e1]
      have i0 : (0 : Int) ≤ (m : Int) := by omega
      have i1 : (m : Int) < (len : Int) := by omega
      have i2 : IntKind.i64.wrap ((m : Int) - 1) = (m : Int) - 1 := by rw [IntKind.wrap_i64]; omega
      have hdr : (zs.drop m).reverse = (zs.drop (m + 1)).reverse ++ [x] := by
        have : zs.drop m = x :: zs.drop (m + 1) := by
          rw [List.drop_eq_getElem_cons (by omega)]; congr 1; exact Option.some.inj ((List.getElem?_eq_getElem (by omega)).symm.trans hx)
        rw [this, List.reverse_cons]
      have HDR := Lib.hid hdr
      have HPRE := Lib.hid hpre
      have HX := Lib.hid hx
      clear hdr hpre hx
      gi_wp2
      refine hR.mono ?_
      rintro e W3 (⟨rfl, hJ3, hk3⟩ | ⟨rfl, hJx3⟩)
      · gi_wp2
        go_roundw
        case rel => exact ⟨m, pre ++ [(m, x)], by go_num, by omega, by rw [List.length_append, List.length_singleton]; omega, by rw [List.map_append, HPRE.out, HDR.out]; rfl, hJ3, kpB_t hnx hk3⟩
        case measure => simp [intOf]
      · gi_wp2
        refine bodyPost_ret (results_none rfl _ _ _) rfl ?_
        exact ⟨⟨_, rfl⟩, .inr ⟨_, trivial, hJx3⟩⟩
set_option maxRecDepth 100000 in
set_option maxHeartbeats 1000000 in
theorem backR1_nil_in (F : Fence) (n : Nat) (h7 : F.fn 64) (hro : F.round = none) (l Bs : Nat) (J : List (Nat × RT) → World → Prop) (W : World) (hBs : W.cell? ⟨Bs, 0, none⟩ = some (.slice none 0 0)) (h0 : J [] W) :
    CallsIn F n Tryz.prog 64 #[.func (.yield l) #[] #[], .pointer (some ⟨Bs, 0, none⟩)] W fun e W' => (∃ v, e = .returned v) ∧ J [] W' := by
  refine callsIn_of_wp Tryz.func64 rfl h7 ?_ hro
  simp only [Tryz.ntmps64, List.size_toArray, List.length_cons, List.length_nil, Nat.reduceAdd, Nat.reduceSub, Array.replicate_succ, Array.replicate_zero, List.push_toArray, List.append_toArray, List.nil_append, List.cons_append]
  gi_wp2
  gi_loopw [3] (fun i wr => i = .int .i64 (-1) ∧ J [] wr) (fun _ _ => 0)
  case atStart => exact ⟨rfl, h0⟩
  case round =>
    obtain ⟨rfl, hJs⟩ := hrel
    gi_wp2
    go_end0
    exact ⟨⟨_, rfl⟩, hJs⟩
set_option maxRecDepth 100000 in
set_option maxHeartbeats 1000000 in
theorem backwardR_in (F : Fence) (n : Nat) (h5 : F.fn 43) (hro : F.round = none) (a : Option Addr) (len cap : Nat) (w : World) :
    CallsIn F n Tryz.prog 43 #[.slice a len cap] w fun e w' => e = .returned (.func (.func 64) #[] #[.pointer (some ⟨w.heap.size, 0, none⟩)]) ∧ w' = w.alloc (.cells #[.slice a len cap] 28) := by
  refine callsIn_of_wp Tryz.func43 rfl h5 ?_ hro
  simp only [Tryz.ntmps43, List.size_toArray, List.length_cons, List.length_nil, Nat.reduceAdd, Nat.reduceSub, Array.replicate_succ, Array.replicate_zero, List.push_toArray, List.append_toArray, List.nil_append, List.cons_append]
  gi_wp2
  go_ret
  exact ⟨rfl, rfl⟩
end Go.Proofs.YtenikoecnfbfoaaGreatDoor
/- A row of objects, backward: the library's iterator. -/
namespace Go.Proofs.YtenikoecnfbfoaaGreatDoor
open Go.RowKit Go.Shelf Go.Maps
set_option linter.unusedVariables false
set_option linter.unusedSimpArgs false
attribute [local go_sem] Oper.semAt_some

/-- An object as it lies: its number, its value's parts. -/
structure OB where
  id : Int
  k : Int
  n : Int
  s : ByteArray
  ao : Option Addr
  len : Nat
  cap : Nat
def ObCells (W : World) (b off j : Nat) (x : OB) : Prop := W.cell? ⟨b, off + j * 5, none⟩ = some (.int .i64 x.id) ∧ W.cell? ⟨b, off + j * 5 + 1, none⟩ = some (.int .i64 x.k) ∧ W.cell? ⟨b, off + j * 5 + 2, none⟩ = some (.int .i64 x.n) ∧ W.cell? ⟨b, off + j * 5 + 3, none⟩ = some (.string x.s) ∧ W.cell? ⟨b, off + j * 5 + 4, none⟩ = some (.slice x.ao x.len x.cap)
set_option maxRecDepth 100000 in
set_option maxHeartbeats 2000000 in
theorem backO1_in (F : Fence) (n : Nat) (h7 : F.fn 44) (hro : F.round = none) (hn : 1 ≤ n) (l Bs n₀ b off len cap : Nat) (zs : List OB) (hlen : zs.length = len) (hreach : len ≤ 1000000) (hb : b < n₀) (J Jx : List (Nat × OB) → World → Prop)
    (hY : ∀ pre x W, J pre W → pre.length < len → zs[x.1]? = some x.2 → YieldAt F (n - 1) Tryz.prog l #[.int .i64 (x.1 : Int), .agg #[.int .i64 x.2.id, .int .i64 x.2.k, .int .i64 x.2.n, .string x.2.s, .slice x.2.ao x.2.len x.2.cap]] W fun e W' =>
      (e = .returned (.bool true) ∧ J (pre ++ [x]) W' ∧ KpB n₀ Bs W W') ∨ (e = .returned (.bool false) ∧ Jx (pre ++ [x]) W'))
    (W : World) (hBs : W.cell? ⟨Bs, 0, none⟩ = some (.slice (some ⟨b, off, none⟩) len cap)) (hc : ∀ j x, zs[j]? = some x → ObCells W b off j x) (h0 : J [] W) :
    CallsIn F n Tryz.prog 44 #[.func (.yield l) #[] #[], .pointer (some ⟨Bs, 0, none⟩)] W fun e W' => (∃ v, e = .returned v) ∧
      ((∃ ys : List (Nat × OB), ys.map (·.2) = zs.reverse ∧ J ys W') ∨ (∃ pre, True ∧ Jx pre W')) := by
  refine callsIn_of_wp Tryz.func44 rfl h7 ?_ hro
  simp only [Tryz.ntmps44, List.size_toArray, List.length_cons, List.length_nil, Nat.reduceAdd, Nat.reduceSub, Array.replicate_succ, Array.replicate_zero, List.push_toArray, List.append_toArray, List.nil_append, List.cons_append]
  have hw0 : IntKind.i64.wrap ((len : Int) - 1) = (len : Int) - 1 := by rw [IntKind.wrap_i64]; omega
  gi_wp2
  gi_loopw [3] (fun i wr => ∃ (m : Nat) (pre : List (Nat × OB)), i = .int .i64 ((m : Int) - 1) ∧ m ≤ len ∧ pre.length + m = len ∧ pre.map (·.2) = (zs.drop m).reverse ∧ J pre wr ∧ KpB n₀ Bs W wr)
    (fun i _ => (intOf i + 1).toNat)
  case atStart => exact ⟨len, [], rfl, Nat.le_refl _, by simp, by rw [List.drop_of_length_le (by omega)]; rfl, h0, Below.refl _ _, rfl⟩
  case round =>
    obtain ⟨m, pre, rfl, hm, hpl, hpre, hJs, hnx⟩ := hrel
    have hBs' : wr.cell? ⟨Bs, 0, none⟩ = some (.slice (some ⟨b, off, none⟩) len cap) := by
      rw [← hBs]
      unfold World.cell?
      rw [hnx.2]
    cases m with
    | zero =>
      gi_wp2
      go_end0
      exact ⟨⟨_, rfl⟩, .inl ⟨pre, by rw [hpre, List.drop_zero], hJs⟩⟩
    | succ m =>
      obtain ⟨x, hx⟩ : ∃ x, zs[m]? = some x := ⟨_, List.getElem?_eq_getElem (by omega)⟩
      obtain ⟨fn, tmps, assign, body, hy, hR⟩ := hY pre (m, x) wr hJs (by omega) hx
      dsimp only at hy
      obtain ⟨c0, c1, c2, c3, c4⟩ := hc m x hx
      replace c0 := (hnx.1.cell (p := ⟨b, off + m * 5, none⟩) hb).trans c0
      replace c1 := (hnx.1.cell (p := ⟨b, off + m * 5 + 1, none⟩) hb).trans c1
      replace c2 := (hnx.1.cell (p := ⟨b, off + m * 5 + 2, none⟩) hb).trans c2
      replace c3 := (hnx.1.cell (p := ⟨b, off + m * 5 + 3, none⟩) hb).trans c3
      replace c4 := (hnx.1.cell (p := ⟨b, off + m * 5 + 4, none⟩) hb).trans c4
      have e1 : (((m + 1 : Nat) : Int) - 1) = (m : Int) := by omega
      rw [e1]
      have i0 : (0 : Int) ≤ (m : Int) := by omega
      have i1 : (m : Int) < (len : Int) := by omega
      have i2 : IntKind.i64.wrap ((m : Int) - 1) = (m : Int) - 1 := by rw [IntKind.wrap_i64]; omega
      have hdr : (zs.drop m).reverse = (zs.drop (m + 1)).reverse ++ [x] := by
        have : zs.drop m = x :: zs.drop (m + 1) := by
          rw [List.drop_eq_getElem_cons (by omega)]; congr 1; exact Option.some.inj ((List.getElem?_eq_getElem (by omega)).symm.trans hx)
        rw [this, List.reverse_cons]
      have HDR := Lib.hid hdr
      have HPRE := Lib.hid hpre
      have HX := Lib.hid hx
      clear hdr hpre hx
      gi_wp2
      refine hR.mono ?_
      rintro e W3 (⟨rfl, hJ3, hk3⟩ | ⟨rfl, hJx3⟩)
      · gi_wp2
        go_roundw
        case rel => exact ⟨m, pre ++ [(m, x)], by go_num, by omega, by rw [List.length_append, List.length_singleton]; omega, by rw [List.map_append, HPRE.out, HDR.out]; rfl, hJ3, kpB_t hnx hk3⟩
        case measure => simp [intOf]
      · gi_wp2
        refine bodyPost_ret (results_none rfl _ _ _) rfl ?_
        exact ⟨⟨_, rfl⟩, .inr ⟨_, trivial, hJx3⟩⟩
set_option maxRecDepth 100000 in
set_option maxHeartbeats 1000000 in
theorem backO1_nil_in (F : Fence) (n : Nat) (h7 : F.fn 44) (hro : F.round = none) (l Bs : Nat) (J : List (Nat × OB) → World → Prop) (W : World) (hBs : W.cell? ⟨Bs, 0, none⟩ = some (.slice none 0 0)) (h0 : J [] W) :
    CallsIn F n Tryz.prog 44 #[.func (.yield l) #[] #[], .pointer (some ⟨Bs, 0, none⟩)] W fun e W' => (∃ v, e = .returned v) ∧ J [] W' := by
  refine callsIn_of_wp Tryz.func44 rfl h7 ?_ hro
  simp only [Tryz.ntmps44, List.size_toArray, List.length_cons, List.length_nil, Nat.reduceAdd, Nat.reduceSub, Array.replicate_succ, Array.replicate_zero, List.push_toArray, List.append_toArray, List.nil_append, List.cons_append]
  gi_wp2
  gi_loopw [3] (fun i wr => i = .int .i64 (-1) ∧ J [] wr) (fun _ _ => 0)
  case atStart => exact ⟨rfl, h0⟩
  case round =>
    obtain ⟨rfl, hJs⟩ := hrel
    gi_wp2
    go_end0
    exact ⟨⟨_, rfl⟩, hJs⟩
set_option maxRecDepth 100000 in
set_option maxHeartbeats 1000000 in
theorem backwardO_in (F : Fence) (n : Nat) (h5 : F.fn 24) (hro : F.round = none) (a : Option Addr) (len cap : Nat) (w : World) :
    CallsIn F n Tryz.prog 24 #[.slice a len cap] w fun e w' => e = .returned (.func (.func 44) #[] #[.pointer (some ⟨w.heap.size, 0, none⟩)]) ∧ w' = w.alloc (.cells #[.slice a len cap] 26) := by
  refine callsIn_of_wp Tryz.func24 rfl h5 ?_ hro
  simp only [Tryz.ntmps24, List.size_toArray, List.length_cons, List.length_nil, Nat.reduceAdd, Nat.reduceSub, Array.replicate_succ, Array.replicate_zero, List.push_toArray, List.append_toArray, List.nil_append, List.cons_append]
  gi_wp2
  go_ret
  exact ⟨rfl, rfl⟩
end Go.Proofs.YtenikoecnfbfoaaGreatDoor
/- Layer 8: a directory's value, as it is built in memory. -/
namespace Go.Proofs.YtenikoecnfbfoaaGreatDoor
open Go.RowKit
set_option linter.unusedVariables false
set_option linter.unusedSimpArgs false
open Gr (RT strV refV tupV noneV dirV zeroV)

theorem kid_cons {w : World} {P : Nat → Prop} {t : VT} {ts : List VT} {b j : Nat} {x0 x1 x2 x3 : Value} (hP : P b) (h0 : w.cell? ⟨b, j * 4, none⟩ = some x0) (h1 : w.cell? ⟨b, j * 4 + 1, none⟩ = some x1) (h2 : w.cell? ⟨b, j * 4 + 2, none⟩ = some x2) (h3 : w.cell? ⟨b, j * 4 + 3, none⟩ = some x3)
    (hv : ValIs w P t (.agg #[x0, x1, x2, x3])) (hr : KidsAt w P ts (some ⟨b, 0, none⟩) (j + 1)) : KidsAt w P (t :: ts) (some ⟨b, 0, none⟩) j := by
  unfold KidsAt
  exact ⟨⟨b, 0, x0, x1, x2, x3, rfl, hP, by rw [Nat.zero_add]; exact h0, by rw [Nat.zero_add]; exact h1, by rw [Nat.zero_add]; exact h2, by rw [Nat.zero_add]; exact h3, hv⟩, hr⟩
theorem kid_nil {w : World} {P : Nat → Prop} {ao : Option Addr} {j : Nat} : KidsAt w P [] ao j := by unfold KidsAt; trivial
theorem node_is {w : World} {P : Nat → Prop} {k n : Int} {l : List VT} {b : Nat} (hk : (Lit.int .i64 k).wf = true) (hn : (Lit.int .i64 n).wf = true) (hl : l.length ≤ 1000) (h : KidsAt w P l (some ⟨b, 0, none⟩) 0) :
    ValIs w P (.node k n ⟨#[]⟩ l) (.agg #[.int .i64 k, .int .i64 n, .string ⟨#[]⟩, .slice (some ⟨b, 0, none⟩) l.length l.length]) := by
  unfold ValIs
  exact ⟨some ⟨b, 0, none⟩, l.length, rfl, Nat.le_refl _, by unfold maxLen; omega, sz_max _ (by decide), hk, hn, (fun e => by cases e), h⟩
/-- The cells of a root's triple. -/
def tup12 (r : RT) : Array Value := #[.int .i64 2, .int .i64 0, .string (bytes r.name), .slice none 0 0, .int .i64 2, .int .i64 0, .string (bytes r.typ), .slice none 0 0, .int .i64 5, .int .i64 r.id, .string ⟨#[]⟩, .slice none 0 0]
theorem tup_is {w : World} {P : Nat → Prop} {T : TypeId} {r : RT} {b : Nat} (hb : w.heap[b]? = some (.cells (tup12 r) T (0, 0))) (hP : P b) (h1 : r.name.length ≤ 1000000) (h2 : r.typ.length ≤ 1000000) (h3 : (Lit.int .i64 r.id).wf = true) :
    ValIs w P (tupV r) (.agg #[.int .i64 4, .int .i64 0, .string ⟨#[]⟩, .slice (some ⟨b, 0, none⟩) 3 3]) := by
  have hc : ∀ (j : Nat) u, (tup12 r)[j]? = some u → w.cell? ⟨b, j, none⟩ = some u := fun j u hj => by unfold World.cell?; rw [hb]; exact hj
  have e1 : ∀ l : List UInt8, l.length ≤ 1000000 → (bytes l).size ≤ maxLen := fun l hl => by rw [bytes_size]; unfold maxLen; omega
  refine node_is (l := [strV r.name, strV r.typ, refV r.id]) (by decide) (by decide) (by simp) ?_
  refine kid_cons hP (hc 0 _ rfl) (hc 1 _ rfl) (hc 2 _ rfl) (hc 3 _ rfl) (leaf_is w P 2 0 _ (by decide) (by decide) (e1 _ h1)) ?_
  refine kid_cons hP (hc 4 _ rfl) (hc 5 _ rfl) (hc 6 _ rfl) (hc 7 _ rfl) (leaf_is w P 2 0 _ (by decide) (by decide) (e1 _ h2)) ?_
  exact kid_cons hP (hc 8 _ rfl) (hc 9 _ rfl) (hc 10 _ rfl) (hc 11 _ rfl) (leaf_is w P 5 _ _ (by decide) h3 (sz_max _ (by decide))) kid_nil
/-- One root more ahead of a directory. -/
theorem dir_is {w : World} {P : Nat → Prop} {T T' : TypeId} {r : RT} {l : List RT} {b c cap n : Nat} {num : Int} {ao : Option Addr} (hb : w.heap[b]? = some (.cells (tup12 r) T (0, 0)))
    (hc : w.heap[c]? = some (.cells #[.int .i64 4, .int .i64 0, .string ⟨#[]⟩, .slice (some ⟨b, 0, none⟩) 3 3, .int .i64 3, .int .i64 num, .string ⟨#[]⟩, .slice ao n cap] T' (0, 0))) (hPb : P b) (hPc : P c)
    (h1 : r.name.length ≤ 1000000) (h2 : r.typ.length ≤ 1000000) (h3 : (Lit.int .i64 r.id).wf = true) (hd : ValIs w P (dirV l) (.agg #[.int .i64 3, .int .i64 num, .string ⟨#[]⟩, .slice ao n cap])) :
    ValIs w P (dirV (r :: l)) (.agg #[.int .i64 3, .int .i64 1, .string ⟨#[]⟩, .slice (some ⟨c, 0, none⟩) 2 2]) := by
  have hcc : ∀ (j : Nat) u, (#[.int .i64 4, .int .i64 0, .string ⟨#[]⟩, .slice (some ⟨b, 0, none⟩) 3 3, .int .i64 3, .int .i64 num, .string ⟨#[]⟩, .slice ao n cap] : Array Value)[j]? = some u → w.cell? ⟨c, j, none⟩ = some u := fun j u hj => by unfold World.cell?; rw [hc]; exact hj
  refine node_is (l := [tupV r, dirV l]) (by decide) (by decide) (by simp) ?_
  refine kid_cons hPc (hcc 0 _ rfl) (hcc 1 _ rfl) (hcc 2 _ rfl) (hcc 3 _ rfl) (tup_is hb hPb h1 h2 h3) ?_
  exact kid_cons hPc (hcc 4 _ rfl) (hcc 5 _ rfl) (hcc 6 _ rfl) (hcc 7 _ rfl) hd kid_nil
/-- A directory's own parts. -/
theorem dir_form (l : List RT) : (dirV l).kind = 3 ∧ (dirV l).text = ⟨#[]⟩ ∧ ((dirV l).num = 0 ∨ (dirV l).num = 1) := by
  cases l with
  | nil => exact ⟨rfl, rfl, .inl rfl⟩
  | cons r l => exact ⟨rfl, rfl, .inr rfl⟩
end Go.Proofs.YtenikoecnfbfoaaGreatDoor
/- Layer 8: the program's Dir. -/
namespace Go.Proofs.YtenikoecnfbfoaaGreatDoor
open Go.RowKit Go.Shelf Go.Maps
set_option linter.unusedVariables false
set_option linter.unusedSimpArgs false
open Gr (RT strV refV tupV noneV dirV zeroV dirT sortO)
attribute [local go_sem] Oper.semAt_some

def encR (x : Nat × RT) : Array Value := #[.int .i64 (x.1 : Int), .agg #[.string (bytes x.2.name), .string (bytes x.2.typ), .int .i64 x.2.id]]
theorem backR_stops (F : Fence) (n : Nat) (h7 : F.fn 64) (hro : F.round = none) (hn : 1 ≤ n) (Bs n₀ : Nat) (sv : Value) (zs : List RT) (hreach : zs.length ≤ 1000000) (w : World) (hBs : Bs < w.heap.size) (hn₀ : n₀ ≤ w.heap.size)
    (hc : w.cell? ⟨Bs, 0, none⟩ = some sv) (hI : RtAt w sv zs) (hsv : ∀ a n c, sv = .slice (some a) n c → a.block < n₀) (hnil : ∀ n c, sv = .slice none n c → c = 0) :
    SeqStopsK F n Tryz.prog 64 #[.pointer (some ⟨Bs, 0, none⟩)] encR (KpB n₀ Bs) (fun ys => ys.map (·.2) = zs.reverse) (fun _ => True) zs.length w := fun l J Jx W hW _ _ hY h0 => by
  have hc' := (hW.cell (p := ⟨Bs, 0, none⟩) hBs).trans hc
  have hI2 := hI.below hW
  obtain ⟨ao, cap, rfl, h1, h2, h3, h4, h5⟩ := hI2
  cases ao with
  | none =>
    have hcp := h3 rfl
    have hz : zs = [] := List.length_eq_zero_iff.1 (by omega)
    subst hz
    subst hcp
    exact (backR1_nil_in F n h7 hro l Bs J W hc' h0).mono fun e W' ⟨he, hj⟩ => ⟨he, .inl ⟨_, rfl, hj⟩⟩
  | some a =>
    obtain ⟨b, off, s⟩ := a
    obtain ⟨rfl, hb⟩ := h4 b off s rfl
    refine backR1_in F n h7 hro hn l Bs n₀ b off zs.length cap zs rfl hreach (hsv ⟨b, off, none⟩ _ _ rfl) J Jx hY W hc' (fun j x hj => ?_) h0
    obtain ⟨g1, g2, g3⟩ := rtcells_get hj
    obtain ⟨b1, o1, e1, c1⟩ := h5 _ _ g1
    obtain ⟨b2, o2, e2, c2⟩ := h5 _ _ g2
    obtain ⟨b3, o3, e3, c3⟩ := h5 _ _ g3
    cases e1
    cases e2
    cases e3
    exact ⟨c1, c2, c3⟩
def DrP (W : World) (B5 b : Nat) : Prop := B5 + 1 < b ∧ ∃ cs T fr, W.heap[b]? = some (.cells cs T fr)
/-- A root that memory can hold. -/
def Gd (r : RT) : Prop := r.name.length ≤ 1000000 ∧ r.typ.length ≤ 1000000 ∧ (Lit.int .i64 r.id).wf = true
/-- What Dir's loop has built, and what it keeps. -/
def DrI (w0 : World) (sv : Value) (B5 : Nat) (pre : List (Nat × RT)) (W : World) : Prop :=
  ∃ (num : Int) (ao : Option Addr) (n cap : Nat), W.heap[B5]? = some (.cells #[.int .i64 3, .int .i64 num, .string ⟨#[]⟩, .slice ao n cap] 47 (0, 0)) ∧ W.heap[B5 + 1]? = some (.cells #[sv] 28 (0, 0)) ∧
    ((∀ y ∈ pre, Gd y.2) → ValIs W (DrP W B5) (dirV (pre.map (·.2)).reverse) (.agg #[.int .i64 3, .int .i64 num, .string ⟨#[]⟩, .slice ao n cap])) ∧ Below B5 w0 W
theorem drp_keep {W W' : World} {B5 : Nat} {t : VT} {v : Value} (h3 : ValIs W (DrP W B5) t v) (hk : ∀ b cs T fr, B5 + 1 < b → W.heap[b]? = some (.cells cs T fr) → W'.heap[b]? = some (.cells cs T fr)) : ValIs W' (DrP W' B5) t v := by
  refine h3.keep (fun b ⟨hb1, cs, T, fr, hb2⟩ => ⟨hb1, cs, T, fr, hk b cs T fr hb1 hb2⟩) (fun p hp => ?_)
  obtain ⟨hb1, cs, T, fr, hb2⟩ := hp
  unfold World.cell?
  rw [hk p.block cs T fr hb1 hb2, hb2]
theorem dr_keep {w0 W W' : World} {sv : Value} {B5 : Nat} {pre : List (Nat × RT)} (h : DrI w0 sv B5 pre W) (hk : ∀ b cs T fr, B5 ≤ b → W.heap[b]? = some (.cells cs T fr) → W'.heap[b]? = some (.cells cs T fr)) (hb : Below B5 W W') : DrI w0 sv B5 pre W' := by
  obtain ⟨num, ao, n, cap, h1, h2, h3, h4⟩ := h
  exact ⟨num, ao, n, cap, hk _ _ _ _ (Nat.le_refl _) h1, hk _ _ _ _ (by omega) h2, fun hg => drp_keep (h3 hg) (fun b cs T fr hb => hk b cs T fr (by omega)), h4.trans hb⟩
theorem dr_chg {w0 W W' : World} {sv : Value} {B5 : Nat} {pre : List (Nat × RT)} {F : List Nat} (h : DrI w0 sv B5 pre W) (hc : Chg F W W') (hF : ∀ k ∈ F, W.heap.size ≤ k) : DrI w0 sv B5 pre W' := by
  have l1 : B5 < W.heap.size := by obtain ⟨_, _, _, _, h1, _⟩ := h; exact lt_of_block h1
  exact dr_keep h (fun b cs T fr _ hb => (hc.block b (lt_of_block hb) (fun hm => by have := hF _ hm; have := lt_of_block hb; omega)).trans hb) (hc.below (by omega) (fun k hk => by have := hF k hk; omega))
theorem dr_own {w0 A B : World} {sv : Value} {B5 M : Nat} {pre : List (Nat × RT)} {row : Option Nat} (hM : B5 ≤ M) (h : DrI w0 sv B5 pre A) (hg : A.grownBy B row) (hr : ∀ r, row = some r → M ≤ r ∧ ∃ o : Obj, A.heap[r]? = some o ∧ o.isCells = false) : DrI w0 sv B5 pre B := by
  have l1 : B5 < A.heap.size := by obtain ⟨_, _, _, _, h1, _⟩ := h; exact lt_of_block h1
  refine dr_keep h (fun b cs T fr _ hb => (hg.block b (lt_of_block hb) (fun e => ?_)).trans hb) ?_
  · obtain ⟨_, o, ho, hc⟩ := hr b e.symm
    rw [hb] at ho
    cases ho
    cases hc
  · exact ((Chg.refl row.toList A).grown hg (fun k hk => .inl (by simp [hk]))).below (by omega) (fun k hk => by have := (hr k (by simpa using hk)).1; omega)
/-- One root more. -/
theorem dr_next {w0 W W' : World} {sv : Value} {B5 : Nat} {pre : List (Nat × RT)} {x : Nat × RT} {num : Int} {ao : Option Addr} {n cap : Nat} (h : DrI w0 sv B5 pre W) (hB : W.heap[B5]? = some (.cells #[.int .i64 3, .int .i64 num, .string ⟨#[]⟩, .slice ao n cap] 47 (0, 0)))
    (hc : Chg [B5] W W') (h5 : W'.heap[B5]? = some (.cells #[.int .i64 3, .int .i64 1, .string ⟨#[]⟩, .slice (some ⟨W.heap.size + 1 + 1, 0, none⟩) 2 2] 47 (0, 0)))
    (h12 : W'.heap[W.heap.size]? = some (.cells (tup12 x.2) 47 (0, 0)))
    (h8 : W'.heap[W.heap.size + 1 + 1]? = some (.cells #[.int .i64 4, .int .i64 0, .string ⟨#[]⟩, .slice (some ⟨W.heap.size, 0, none⟩) 3 3, .int .i64 3, .int .i64 num, .string ⟨#[]⟩, .slice ao n cap] 47 (0, 0))) : DrI w0 sv B5 (pre ++ [x]) W' := by
  obtain ⟨num', ao', n', cap', h1, h2, h3, h4⟩ := h
  rw [hB] at h1
  cases h1
  have l2 := lt_of_block h2
  refine ⟨1, _, 2, 2, h5, (hc.block _ l2 (by simp)).trans h2, fun hg => ?_, h4.trans (hc.below (by omega) (by simp))⟩
  have hg1 : ∀ y ∈ pre, Gd y.2 := fun y hy => hg y (List.mem_append_left _ hy)
  obtain ⟨g1, g2, g3⟩ := hg x (List.mem_append_right _ (List.mem_singleton.2 rfl))
  rw [List.map_append, List.map_cons, List.map_nil, List.reverse_append, List.reverse_singleton, List.singleton_append]
  refine dir_is h12 h8 ⟨by omega, _, _, _, h12⟩ ⟨by omega, _, _, _, h8⟩ g1 g2 g3 (drp_keep (h3 hg1) (fun b cs T fr hb hbk => (hc.block b (lt_of_block hbk) (by simp; omega)).trans hbk))
theorem keepsFrom_chg {F : List Nat} {B : Nat} {W W' : World} (hc : Chg F W W') (hF : ∀ k ∈ F, k < B) : KeepsFrom B W W' := ⟨hc.size, fun k o hB hk ho => (hc.block k (Array.getElem?_eq_some_iff.1 hk).1 (fun hm => by have := hF k hm; omega)).trans hk⟩
theorem later3 {W : World} {B5 : Nat} {a b c d : Value} {t : TypeId} (h : W.heap[B5]? = some (.cells #[a, b, c, d] t (0, 0))) (o1 o2 o3 : Obj) : (((W.alloc o1).alloc o2).alloc o3).heap[B5]? = some (.cells #[a, b, c, d] t (0, 0)) := by
  have h1 := lt_of_block h
  rw [Below.heap_alloc _ _ _ (by simp; omega), Below.heap_alloc _ _ _ (by simp; omega), Below.heap_alloc _ _ _ h1, h]
theorem four_last {W : World} {B5 : Nat} {a b c d y0 y1 y2 y3 : Value} {t : TypeId} (h : W.heap[B5]? = some (.cells #[a, b, c, d] t (0, 0))) (o1 o2 o3 : Obj) :
    (((((((W.alloc o1).alloc o2).alloc o3).setCell ⟨B5, 0, none⟩ y0).setCell ⟨B5, 1, none⟩ y1).setCell ⟨B5, 2, none⟩ y2).setCell ⟨B5, 3, none⟩ y3).heap[B5]? = some (.cells #[y0, y1, y2, y3] t (0, 0)) ∧
    Chg [B5] W (((((((W.alloc o1).alloc o2).alloc o3).setCell ⟨B5, 0, none⟩ y0).setCell ⟨B5, 1, none⟩ y1).setCell ⟨B5, 2, none⟩ y2).setCell ⟨B5, 3, none⟩ y3) ∧
    Chg [B5] (((W.alloc o1).alloc o2).alloc o3) (((((((W.alloc o1).alloc o2).alloc o3).setCell ⟨B5, 0, none⟩ y0).setCell ⟨B5, 1, none⟩ y1).setCell ⟨B5, 2, none⟩ y2).setCell ⟨B5, 3, none⟩ y3) :=
  ⟨four_stored (later3 h o1 o2 o3), four_stores ((((Chg.refl [B5] W).alloc o1).alloc o2).alloc o3) (.inl (by simp)) _ _ _ _, four_stores (Chg.refl [B5] _) (.inl (by simp)) _ _ _ _⟩
/-- Dir, ended. -/
def DirEnd (w : World) (r : VT × Int) (e : Ending) (w' : World) : Prop :=
  ∃ v, e = .returned (.tuple #[v, .int .i64 r.2]) ∧ ValIs w' (fun b => w.heap.size ≤ b ∧ b < w'.heap.size) r.1 v ∧ Below w.heap.size w w'
set_option maxRecDepth 100000 in
set_option maxHeartbeats 4000000 in
theorem dir_some (w : World) (v : Value) (l s : List RT) (h : RtAt w v l) (hl : l.length ≤ 100) (hs : sortO l [] = some s) (hsz : ∀ r ∈ l, Gd r)
    (hS : ∀ W, Below w.heap.size w W → Calls Tryz.prog 26 #[v] W (SrtEnd W l)) : Calls Tryz.prog 19 #[v] w (DirEnd w (dirT l)) := by
  obtain ⟨ao, cap, rfl, _⟩ := id h
  have HS := Lib.hid hS
  have hl1 : (l.length : Int) ≤ 100 := by omega
  clear h hS
  refine (callsIn_wide (n := 6)).1 ?_
  refine callsIn_of_wp_marks Tryz.func19 rfl trivial ?_ rfl
  simp only [Tryz.ntmps19, List.size_toArray, List.length_cons, List.length_nil, Nat.reduceAdd, Nat.reduceSub, Array.replicate_succ, Array.replicate_zero, List.push_toArray, List.append_toArray, List.nil_append, List.cons_append]
  gi_wp2_with (refine ⟨trivial, ?_⟩; gi_at_call 26; refine (callsIn_wide.2 (HS.out _ ((Below.refl _ _).alloc (Nat.le_refl _) _))).mono ?_; rintro e w2 ⟨v2, rfl, hr, hn, hb⟩; have hr2 := hr s hs; obtain ⟨a2, c2, rfl, _⟩ := hr2.at_; have HR2 := Lib.hid hr2; have HB2 := Lib.hid hb; clear hr hn hb hr2; simp only [hs, Option.isSome_some])
  have HSS := Lib.hid hs
  clear hs
  gi_wp2_with (refine ⟨trivial, ?_⟩; gi_at_call 43; refine (backwardR_in Fence.wide _ trivial rfl _ _ _ _).mono ?_; rintro e w' ⟨rfl, rfl⟩)
  have h0 : DrI w2 (.slice a2 s.length c2) w2.heap.size [] ((w2.alloc (.cells #[.int .i64 3, .int .i64 0, .string ⟨#[]⟩, .slice none 0 0] 47)).alloc (.cells #[.slice a2 s.length c2] 28)) := by
    have e1 : ((w2.alloc (.cells #[.int .i64 3, .int .i64 0, .string ⟨#[]⟩, .slice none 0 0] 47)).alloc (.cells #[.slice a2 s.length c2] 28)).heap[w2.heap.size]? = some (.cells #[.int .i64 3, .int .i64 0, .string ⟨#[]⟩, .slice none 0 0] 47 (0, 0)) := (Below.heap_alloc _ _ _ (by simp)).trans (World.alloc_heap_new _ _)
    have e2 := World.alloc_heap_new (w2.alloc (.cells #[.int .i64 3, .int .i64 0, .string ⟨#[]⟩, .slice none 0 0] 47)) (.cells #[.slice a2 s.length c2] 28)
    rw [World.size_alloc] at e2
    exact ⟨0, none, 0, 0, e1, e2, fun _ => leaf_is _ _ 3 0 _ (by decide) (by decide) (sz_max _ (by decide)), ((Below.refl _ _).alloc (Nat.le_refl _) _).alloc (by simp) _⟩
  have hs0 : ((w2.alloc (.cells #[.int .i64 3, .int .i64 0, .string ⟨#[]⟩, .slice none 0 0] 47)).alloc (.cells #[.slice a2 s.length c2] 28)).heap.size = w2.heap.size + 1 + 1 := by simp
  generalize (w2.alloc (.cells #[.int .i64 3, .int .i64 0, .string ⟨#[]⟩, .slice none 0 0] 47)).alloc (.cells #[.slice a2 s.length c2] 28) = W0 at h0 hs0 ⊢
  have H0 := Lib.hid h0
  have hsl : s.length ≤ 100 := by
    have := (Gr.sortO_some .nil HSS.out).2.1.length_eq
    rw [List.append_nil] at this
    omega
  have hb0 : Below w2.heap.size w2 W0 := by obtain ⟨_, _, _, _, _, _, _, h⟩ := h0; exact h
  have hW1 : W0.cell? ⟨w2.heap.size + 1, 0, none⟩ = some (.slice a2 s.length c2) := by
    obtain ⟨_, _, _, _, _, h, _⟩ := h0
    simp [World.cell?, h]
  have HR3 := Lib.hid (HR2.out.at_.below hb0)
  refine wpIn_rangeFunc_ownH rfl (by omega) (gf := 64) (lb := #[.pointer (some ⟨w2.heap.size + 1, 0, none⟩)]) rfl trivial (enters_of Tryz.func64 (by kernel_rfl) rfl)
    (backR_stops Fence.wide _ trivial rfl (by omega) (w2.heap.size + 1) w2.heap.size (.slice a2 s.length c2) s (by omega) W0 (by omega) (by omega) hW1 HR3.out (fun a n c e => by cases e; exact HR2.out.1.lt rfl) (fun n c e => by
      cases e
      obtain ⟨a', c', e', _, _, h3, _⟩ := HR2.out.at_
      cases e'
      exact h3 rfl)) kpB_t (kpB_b (by omega) (by omega)) (Below.refl _ _) (fun _ => rfl)
    (fun pre W => DrI w2 (.slice a2 s.length c2) w2.heap.size pre W)
    (fun _ _ _ => False)
    (fun pre A B row hs hg hr => dr_own (by omega) hs hg hr)
    (fun _ _ _ _ _ hs _ _ => hs)
    h0
    (fun x a' W => ∃ Bx, w2.heap.size + 1 < Bx ∧ W.heap[Bx]? = some (.cells #[.string (bytes x.2.name), .string (bytes x.2.typ), .int .i64 x.2.id] 82 (0, 0)) ∧ a' = { tmps := #[.slice a2 s.length c2, undef, .pointer (some ⟨w.heap.size, 0, none⟩), .int .i64 0, .bool true, .pointer (some ⟨w2.heap.size, 0, none⟩), undef, .pointer (some ⟨Bx, 0, none⟩), undef, undef, .slice ao l.length cap, .int .i64 (l.length : Int), .bool (decide (100 < (l.length : Int))), undef, .tuple #[.slice a2 s.length c2, .bool true], .slice ao l.length cap, .tuple #[.slice a2 s.length c2, .bool true], .slice a2 s.length c2, .bool true, .bool true, .bool false, undef, .agg #[.int .i64 3, .int .i64 0, .string ⟨#[]⟩, .slice none 0 0], .slice a2 s.length c2, .func (.func 64) #[] #[.pointer (some ⟨w2.heap.size + 1, 0, none⟩)], .int .i64 (x.1 : Int), .agg #[.string (bytes x.2.name), .string (bytes x.2.typ), .int .i64 x.2.id], undef, undef, undef, undef, undef, undef, undef, undef, undef, undef, undef, undef, undef, undef, undef, undef, undef, undef, undef, undef, undef, undef], defers := [] })
    (fun x a' _ X Y row hs hg hr => by obtain ⟨Bx, h1, h2, h3⟩ := hs; exact ⟨Bx, h1, (hg.block Bx (lt_of_block h2) (fun e => by obtain ⟨_, o, ho, hc⟩ := hr _ e.symm; rw [h2] at ho; cases ho; cases hc)).trans h2, h3⟩)
    ?assign ?body ?done ?stop
  case assign =>
    rintro l pre x W K hI hK
    dsimp only [encR]
    have hW : w2.heap.size + 1 < W.heap.size := by obtain ⟨_, _, _, _, _, h2, _⟩ := hI; exact lt_of_block h2
    gi_wp2
    exact hK _ _ ((KeepsOthers.alloc _ _).from _) ⟨(Below.refl _ W).alloc (by omega) _, Below.heap_alloc _ _ _ (by omega)⟩ (dr_chg hI ((Chg.refl [] W).alloc _) (by simp)) ⟨W.heap.size, hW, World.alloc_heap_new _ _, rfl⟩
  case body =>
    rintro l pre x a' W hl ⟨r, hr⟩ hI ⟨Bx, hBx, bX, rfl⟩ hlt
    obtain ⟨num, ao', n', cap', hB5, hB6, _, _⟩ := id hI
    have HI := Lib.hid hI
    have HB5 := Lib.hid hB5
    have HB6 := Lib.hid hB6
    obtain ⟨q0, q1, q2, q3, q4⟩ := hdr4_cells hB5
    have x0 : W.cell? ⟨Bx, 0, none⟩ = some (.string (bytes x.2.name)) := by simp [World.cell?, bX]
    have x1 : W.cell? ⟨Bx, 1, none⟩ = some (.string (bytes x.2.typ)) := by simp [World.cell?, bX]
    have x2 : W.cell? ⟨Bx, 2, none⟩ = some (.int .i64 x.2.id) := by simp [World.cell?, bX]
    have hlt5 : w2.heap.size < W.heap.size := lt_of_block hB5
    have p0 := fun o1 o2 o3 => (hdr4_cells (later3 hB5 o1 o2 o3)).1
    have p1 := fun o1 o2 o3 => (hdr4_cells (later3 hB5 o1 o2 o3)).2.1
    have p2 := fun o1 o2 o3 => (hdr4_cells (later3 hB5 o1 o2 o3)).2.2.1
    have p3 := fun o1 o2 o3 => (hdr4_cells (later3 hB5 o1 o2 o3)).2.2.2.1
    have p4 := fun o1 o2 o3 => (hdr4_cells (later3 hB5 o1 o2 o3)).2.2.2.2
    clear hI hB5 hB6 bX
    gi_wp2
    obtain ⟨f1, f2, f3⟩ := four_last (y0 := .int .i64 3) (y1 := .int .i64 1) (y2 := .string ⟨#[]⟩) (y3 := .slice (some ⟨W.heap.size + 1 + 1, 0, none⟩) 2 2) HB5.out
      (.cells #[.int .i64 2, .int .i64 0, .string (bytes x.2.name), .slice none 0 0, .int .i64 2, .int .i64 0, .string (bytes x.2.typ), .slice none 0 0, .int .i64 5, .int .i64 x.2.id, .string ⟨#[]⟩, .slice none 0 0] 47)
      (.cells #[.int .i64 4, .int .i64 0, .string ⟨#[]⟩, .slice (some ⟨W.heap.size, 0, none⟩) 3 3] 47)
      (.cells #[.int .i64 4, .int .i64 0, .string ⟨#[]⟩, .slice (some ⟨W.heap.size, 0, none⟩) 3 3, .int .i64 3, .int .i64 num, .string ⟨#[]⟩, .slice ao' n' cap'] 47)
    have g12 : (((W.alloc (.cells #[.int .i64 2, .int .i64 0, .string (bytes x.2.name), .slice none 0 0, .int .i64 2, .int .i64 0, .string (bytes x.2.typ), .slice none 0 0, .int .i64 5, .int .i64 x.2.id, .string ⟨#[]⟩, .slice none 0 0] 47)).alloc (.cells #[.int .i64 4, .int .i64 0, .string ⟨#[]⟩, .slice (some ⟨W.heap.size, 0, none⟩) 3 3] 47)).alloc (.cells #[.int .i64 4, .int .i64 0, .string ⟨#[]⟩, .slice (some ⟨W.heap.size, 0, none⟩) 3 3, .int .i64 3, .int .i64 num, .string ⟨#[]⟩, .slice ao' n' cap'] 47)).heap[W.heap.size]? = some (.cells (tup12 x.2) 47 (0, 0)) := by
      rw [Below.heap_alloc _ _ _ (by simp; omega), Below.heap_alloc _ _ _ (by simp)]; exact World.alloc_heap_new _ _
    have g8 := World.alloc_heap_new ((W.alloc (.cells #[.int .i64 2, .int .i64 0, .string (bytes x.2.name), .slice none 0 0, .int .i64 2, .int .i64 0, .string (bytes x.2.typ), .slice none 0 0, .int .i64 5, .int .i64 x.2.id, .string ⟨#[]⟩, .slice none 0 0] 47)).alloc (.cells #[.int .i64 4, .int .i64 0, .string ⟨#[]⟩, .slice (some ⟨W.heap.size, 0, none⟩) 3 3] 47)) (.cells #[.int .i64 4, .int .i64 0, .string ⟨#[]⟩, .slice (some ⟨W.heap.size, 0, none⟩) 3 3, .int .i64 3, .int .i64 num, .string ⟨#[]⟩, .slice ao' n' cap'] 47)
    rw [World.size_alloc, World.size_alloc] at g8
    have e12 := (f3.block W.heap.size (by simp; omega) (by simp; omega)).trans g12
    have e8 := (f3.block (W.heap.size + 1 + 1) (by simp) (by simp; omega)).trans g8
    clear g12 g8 f3
    generalize (((((((W.alloc _).alloc _).alloc _).setCell _ _).setCell _ _).setCell _ _).setCell _ _) = W' at f1 f2 e12 e8 ⊢
    exact ⟨keepsFrom_chg f2 (by simp; omega), ⟨f2.below (by omega) (by simp), f2.block _ (lt_of_block HB6.out) (by simp)⟩, dr_next HI.out HB5.out f2 f1 e12 e8⟩
  case done =>
    rintro D ys W hD hys hI hK
    have HI := Lib.hid hI
    obtain ⟨num, ao', n', cap', hB5, hB6, hval, hbw⟩ := id hI
    have HB5 := Lib.hid hB5
    have HKD := Lib.hid hK
    have HD := Lib.hid hD
    have hgd : ∀ y ∈ ys, Gd y.2 := fun y hy => by
      have h1 : y.2 ∈ s := by
        have : y.2 ∈ ys.map (·.2) := List.mem_map.2 ⟨y, hy, rfl⟩
        rw [hys] at this
        exact List.mem_reverse.1 this
      have h2 := (Gr.sortO_some .nil HSS.out).2.1.mem_iff.1 h1
      rw [List.append_nil] at h2
      exact hsz _ h2
    have hv := hval hgd
    rw [hys, List.reverse_reverse] at hv
    have HV := Lib.hid hv
    have HBW := Lib.hid hbw
    obtain ⟨q0, q1, q2, q3, q4⟩ := hdr4_cells hB5
    have HCK := Lib.hid (check_any (dirV s) _ W (DrP W w2.heap.size) hv (fun b hb => by obtain ⟨_, cs, T, fr, h⟩ := hb; exact lt_of_block h))
    clear hI hB5 hB6 hval hv hbw hK hD hys hgd
    by_cases hck : encErr (dirV s) = 0
    · rw [hck] at HCK
      gi_wp2_with (refine ⟨trivial, ?_⟩; gi_at_call 25; refine (callsIn_wide.2 HCK.out).mono ?_; rintro e w5 ⟨rfl, hb5⟩; have HB5w := Lib.hid hb5; have z5 := (hb5.block w2.heap.size (lt_of_block HB5.out)).trans HB5.out; have zR := (hb5.block w.heap.size (by have := HBW.out.size; have := HB2.out.size; simp at this; omega)).trans ((HBW.out.block w.heap.size (by have := HB2.out.size; simp at this; omega)).trans ((HB2.out.block w.heap.size (by simp)).trans (World.alloc_heap_new w _))); obtain ⟨q0, q1, q2, q3, q4⟩ := hdr4_cells z5; obtain ⟨r0, r1, r2, r3, r4⟩ := hdr4_cells zR; have ZR := Lib.hid zR; clear hb5 z5 zR)
      obtain ⟨z1, z2⟩ := four_ret (y0 := .int .i64 3) (y1 := .int .i64 num) (y2 := .string ⟨#[]⟩) (y3 := .slice ao' n' cap') ZR.out
      have hZZ := z2
      generalize ((((World.setCell _ _ _).setCell _ _).setCell _ _).setCell _ _) = wz at z1 z2 hZZ ⊢
      have hDW := (Array.getElem?_eq_some_iff.1 HKD.out).1
      have hs5 := HB5w.out.size
      have hRl : w.heap.size < w2.heap.size := by have := HB2.out.size; simp at this; omega
      have hBl := lt_of_block HB5.out
      have hkd : wz.heap[D]? = some (.deferred (some [])) := (z2.block D (Nat.lt_of_lt_of_le hDW hs5) (by have := HD.out; simp; omega)).trans ((HB5w.out.block D hDW).trans HKD.out)
      have hcd : Chg [D] wz (wz.putObj D (.deferred none)) := (Chg.refl _ wz).grown (grownBy_putObj' wz D _) (fun k hk => by cases hk; exact .inl (by simp))
      have zd := (hcd.block _ (lt_of_block z1) (by have := HD.out; simp; omega)).trans z1
      refine ⟨by simp, .inl ⟨_, _, rfl, run_takeDeferred hkd, ?_⟩⟩
      obtain ⟨y0, y1, y2, y3, _⟩ := hdr4_cells zd
      refine ⟨.tuple #[.agg #[.int .i64 3, .int .i64 num, .string ⟨#[]⟩, .slice ao' n' cap'], .int .i64 0], by simp [results, Tryz.results19, go_sem, y0, y1, y2, y3], ?_⟩
      have hbe : Below w.heap.size w (wz.putObj D (.deferred none)) := by
        have h1 : Below w.heap.size w w2 := ((Below.refl _ _).alloc (Nat.le_refl _) _).trans (HB2.out.mono (by simp))
        have h2 := h1.trans ((HBW.out.mono (by omega)).trans (HB5w.out.mono (by omega)))
        exact (h2.trans (z2.below h2.size (by simp))).trans (hcd.below (Nat.le_trans h2.size z2.size) (by have := HD.out; simp; omega))
      have hdt : dirT l = (dirV s, 0) := by unfold dirT; rw [if_neg (by omega), HSS.out]; simp only; rw [if_pos hck]
      rw [hdt]
      refine ⟨_, rfl, HV.out.keep (fun b hb => ?_) (fun p hp => ?_), hbe⟩
      · obtain ⟨h1, cs, T, fr, h2⟩ := hb
        have := lt_of_block h2
        exact ⟨by omega, Nat.lt_of_lt_of_le this (Nat.le_trans hs5 (Nat.le_trans z2.size hcd.size))⟩
      · obtain ⟨h1, cs, T, fr, h2⟩ := hp
        have hl2 := lt_of_block h2
        have hne : p.block ≠ D := fun e => by rw [e, HKD.out] at h2; cases h2
        unfold World.cell?
        rw [hcd.block _ (Nat.lt_of_lt_of_le hl2 (Nat.le_trans hs5 z2.size)) (by simpa using hne), z2.block _ (Nat.lt_of_lt_of_le hl2 hs5) (by simp; omega), HB5w.out.block _ hl2]
    · obtain ⟨er, her⟩ : ∃ er, encErr (dirV s) = er := ⟨_, rfl⟩
      rw [her] at hck HCK
      have k1 : (er == 0) = false := by simpa using hck
      have k2 : (er != 0) = true := by simpa using hck
      gi_wp2_with (refine ⟨trivial, ?_⟩; gi_at_call 25; refine (callsIn_wide.2 HCK.out).mono ?_; rintro e w5 ⟨rfl, hb5⟩; have HB5w := Lib.hid hb5; have z5 := (hb5.block w2.heap.size (lt_of_block HB5.out)).trans HB5.out; have zR := (hb5.block w.heap.size (by have := HBW.out.size; have := HB2.out.size; simp at this; omega)).trans ((HBW.out.block w.heap.size (by have := HB2.out.size; simp at this; omega)).trans ((HB2.out.block w.heap.size (by simp)).trans (World.alloc_heap_new w _))); obtain ⟨q0, q1, q2, q3, q4⟩ := hdr4_cells z5; obtain ⟨r0, r1, r2, r3, r4⟩ := hdr4_cells zR; have ZR := Lib.hid zR; clear hb5 z5 zR)
      obtain ⟨z1, z2⟩ := four_ret (y0 := .int .i64 0) (y1 := .int .i64 0) (y2 := .string ⟨#[]⟩) (y3 := .slice none 0 0) ZR.out
      have hZZ := z2
      generalize ((((World.setCell _ _ _).setCell _ _).setCell _ _).setCell _ _) = wz at z1 z2 hZZ ⊢
      have hDW := (Array.getElem?_eq_some_iff.1 HKD.out).1
      have hs5 := HB5w.out.size
      have hRl : w.heap.size < w2.heap.size := by have := HB2.out.size; simp at this; omega
      have hBl := lt_of_block HB5.out
      have hkd : wz.heap[D]? = some (.deferred (some [])) := (z2.block D (Nat.lt_of_lt_of_le hDW hs5) (by have := HD.out; simp; omega)).trans ((HB5w.out.block D hDW).trans HKD.out)
      have hcd : Chg [D] wz (wz.putObj D (.deferred none)) := (Chg.refl _ wz).grown (grownBy_putObj' wz D _) (fun k hk => by cases hk; exact .inl (by simp))
      have zd := (hcd.block _ (lt_of_block z1) (by have := HD.out; simp; omega)).trans z1
      refine ⟨by simp, .inl ⟨_, _, rfl, run_takeDeferred hkd, ?_⟩⟩
      obtain ⟨y0, y1, y2, y3, _⟩ := hdr4_cells zd
      refine ⟨.tuple #[.agg #[.int .i64 0, .int .i64 0, .string ⟨#[]⟩, .slice none 0 0], .int .i64 er], by simp [results, Tryz.results19, go_sem, y0, y1, y2, y3], ?_⟩
      have hbe : Below w.heap.size w (wz.putObj D (.deferred none)) := by
        have h1 : Below w.heap.size w w2 := ((Below.refl _ _).alloc (Nat.le_refl _) _).trans (HB2.out.mono (by simp))
        have h2 := h1.trans ((HBW.out.mono (by omega)).trans (HB5w.out.mono (by omega)))
        exact (h2.trans (z2.below h2.size (by simp))).trans (hcd.below (Nat.le_trans h2.size z2.size) (by have := HD.out; simp; omega))
      have hdt : dirT l = (zeroV, er) := by unfold dirT; rw [if_neg (by omega), HSS.out]; simp only; rw [her, if_neg hck]
      rw [hdt]
      exact ⟨_, rfl, leaf_is _ _ 0 0 _ (by decide) (by decide) (sz_max _ (by decide)), hbe⟩
  case stop =>
    rintro D c pre W _ _ h _
    exact h.elim
end Go.Proofs.YtenikoecnfbfoaaGreatDoor
/- Layer 8: the program's Dir: its errors; all together. -/
namespace Go.Proofs.YtenikoecnfbfoaaGreatDoor
open Go.RowKit
set_option linter.unusedVariables false
set_option linter.unusedSimpArgs false
open Gr (RT dirV zeroV dirT sortO)

set_option maxRecDepth 100000 in
theorem dir_big (w : World) (v : Value) (l : List RT) (h : RtAt w v l) (hl : 100 < l.length) (hl2 : l.length ≤ 1000000) : Calls Tryz.prog 19 #[v] w (DirEnd w (dirT l)) := by
  obtain ⟨ao, cap, rfl, _⟩ := h
  have h1 : (100 : Int) < (l.length : Int) := by omega
  have hdt : dirT l = (zeroV, 4) := by unfold dirT; rw [if_pos hl]
  rw [hdt]
  clear hdt hl
  have hbl := World.alloc_heap_new w (.cells #[.int .i64 0, .int .i64 0, .string ⟨#[]⟩, .slice none 0 0] 47)
  have HBL := Lib.hid hbl
  clear hbl
  go_enter Tryz.func19, Tryz.ntmps19
  go_wp2
  obtain ⟨y0, y1, y2, y3, _⟩ := hdr4_cells HBL.out
  refine bodyPost_ret (v := .tuple #[.agg #[.int .i64 0, .int .i64 0, .string ⟨#[]⟩, .slice none 0 0], .int .i64 4]) (by simp [results, Tryz.results19, go_sem, y0, y1, y2, y3]) rfl ?_
  exact ⟨_, rfl, leaf_is _ _ 0 0 _ (by decide) (by decide) (sz_max _ (by decide)), (Below.refl _ _).alloc (Nat.le_refl _) _⟩
set_option maxRecDepth 100000 in
theorem dir_none (w : World) (v : Value) (l : List RT) (h : RtAt w v l) (hl : l.length ≤ 100) (hs : sortO l [] = none)
    (hS : ∀ W, Below w.heap.size w W → Calls Tryz.prog 26 #[v] W (SrtEnd W l)) : Calls Tryz.prog 19 #[v] w (DirEnd w (dirT l)) := by
  obtain ⟨ao, cap, rfl, _⟩ := h
  have HS := Lib.hid hS
  have h1 : ¬ (100 : Int) < (l.length : Int) := by omega
  have hdt : dirT l = (zeroV, 2) := by unfold dirT; rw [if_neg (by omega), hs]
  rw [hdt]
  clear hdt hS
  go_enter Tryz.func19, Tryz.ntmps19
  go_wp2_with (go_at_call 26; refine (HS.out _ ((Below.refl _ _).alloc (Nat.le_refl _) _)).mono ?_; rintro e w2 ⟨v2, rfl, _, hn, hb⟩; have hn2 := hn hs; subst hn2; have HB2 := Lib.hid hb; have zR := (hb.block w.heap.size (by simp)).trans (World.alloc_heap_new w _); obtain ⟨r0, r1, r2, r3, r4⟩ := hdr4_cells zR; have ZR := Lib.hid zR; clear hb zR hn; simp only [hs, Option.isSome_none])
  obtain ⟨z1, z2⟩ := four_ret (y0 := .int .i64 0) (y1 := .int .i64 0) (y2 := .string ⟨#[]⟩) (y3 := .slice none 0 0) ZR.out
  generalize ((((World.setCell _ _ _).setCell _ _).setCell _ _).setCell _ _) = wz at z1 z2 ⊢
  clear r0 r1 r2 r3 r4
  obtain ⟨y0, y1, y2, y3, _⟩ := hdr4_cells z1
  refine bodyPost_ret (v := .tuple #[.agg #[.int .i64 0, .int .i64 0, .string ⟨#[]⟩, .slice none 0 0], .int .i64 2]) (by simp [results, Tryz.results19, go_sem, y0, y1, y2, y3]) rfl ?_
  have h1 : Below w.heap.size w w2 := ((Below.refl _ _).alloc (Nat.le_refl _) _).trans (HB2.out.mono (by simp))
  exact ⟨_, rfl, leaf_is _ _ 0 0 _ (by decide) (by decide) (sz_max _ (by decide)), h1.trans (z2.below h1.size (by simp))⟩
/-- The program's Dir. -/
theorem dir_any' (w : World) (v : Value) (l : List RT) (h : RtAt w v l) (hl : l.length ≤ 1000000) (hsz : ∀ r ∈ l, Gd r)
    (hS : ∀ W, Below w.heap.size w W → Calls Tryz.prog 26 #[v] W (SrtEnd W l)) : Calls Tryz.prog 19 #[v] w (DirEnd w (dirT l)) := by
  by_cases hb : 100 < l.length
  · exact dir_big w v l h hb hl
  · cases hs : sortO l [] with
    | none => exact dir_none w v l h (by omega) hs hS
    | some s => exact dir_some w v l s h (by omega) hs hsz hS
end Go.Proofs.YtenikoecnfbfoaaGreatDoor
/- Layer 8: the document's sorted: the region that puts a root in. -/
namespace Go.Proofs.YtenikoecnfbfoaaGreatDoor
open Go.RowKit
set_option linter.unusedVariables false
set_option linter.unusedSimpArgs false
open Gr (RT)
def regG (n : Nat) : Code → Option Code
  | .region k o d => if k = n then some (.region k o d) else none
  | .loop c => regG n c
  | .seq a b => match regG n a with
    | some c => some c
    | none => regG n b
  | .block _ c => regG n c
  | .scope c => regG n c
  | .cond _ a b => match regG n a with
    | some c => some c
    | none => regG n b
  | _ => none
noncomputable def reg13 : Code := ((Tryz.f31.body.bind (regG 13)).getD .skip)
theorem use_regG {P : Program} {c c' : Code} {K : Exit → Act → World → Prop} {a : Act} {w : World} (hc : c = c') (h : Code.wp P c' K a w) : Code.wp P c K a w := hc ▸ h
theorem infoRt8 : (Tryz.prog.info? 66).map (fun i => (i.zero, i.size, i.bytes)) = some (some (.agg #[.string ⟨#[]⟩, .string ⟨#[]⟩, .int .i64 0]), 3, 40) := by kernel_rfl
theorem rtcells_take : ∀ (l : List RT) (k : Nat), (rtcells l).take (k * 3) = rtcells (l.take k)
  | [], k => by simp [rtcells]
  | r :: l, 0 => by simp [rtcells]
  | r :: l, k + 1 => by
    rw [rtcells_cons, List.take_succ_cons, rtcells_cons, List.take_append, rcs_len, List.take_of_length_le (by rw [rcs_len]; omega), show (k + 1) * 3 - 3 = k * 3 by omega, rtcells_take l k]
theorem rtcells_drop : ∀ (l : List RT) (k : Nat), (rtcells l).drop (k * 3) = rtcells (l.drop k)
  | [], k => by simp [rtcells]
  | r :: l, 0 => by simp
  | r :: l, k + 1 => by
    rw [rtcells_cons, List.drop_succ_cons, List.drop_append, rcs_len, List.drop_of_length_le (by rw [rcs_len]; omega), show (k + 1) * 3 - 3 = k * 3 by omega, rtcells_drop l k, List.nil_append]
/-- What an append has left is the call's own still. -/
theorem app_own {n : Nat} {w W W' : World} {v v' : Value} (hb : Below n w W) (hn : n ≤ W.heap.size) (hv : ∀ k, v.ownBlock = some k → n ≤ k) (ha : Appended W v W' v') : Below n w W' ∧ n ≤ W'.heap.size ∧ ∀ k, v'.ownBlock = some k → n ≤ k := by
  have hc := ha.chg
  refine ⟨hb.trans (hc.below hn (fun k hk => hv k (by simpa using hk))), Nat.le_trans hn hc.size, fun k hk => ?_⟩
  rcases ha.out hk with e | e
  · exact hv k e
  · omega
/-- A row under way: the world has kept what stood before, the row is the call's own. -/
def St (T : TypeId) (wr W : World) (v : Value) (l : List RT) : Prop := Below wr.heap.size wr W ∧ RtRow T W wr.heap.size v l
theorem St.new (T : TypeId) {wr W : World} (hb : Below wr.heap.size wr W) (N : Nat) (hN : W.heap.size = N) : St T wr (W.alloc (.cells #[] T)) (.slice (some ⟨N, 0, none⟩) 0 0) [] :=
  hN ▸ ⟨hb.alloc hb.size _, RowZ.none0 W T 3, fun k hk => by simp [Value.ownBlock] at hk; have := hb.size; omega⟩
theorem St.one (T : TypeId) {wr W : World} (hb : Below wr.heap.size wr W) (r : RT) (N : Nat) (hN : W.heap.size = N) : St T wr (W.alloc (.cells #[.string (bytes r.name), .string (bytes r.typ), .int .i64 r.id] T)) (.slice (some ⟨N, 0, none⟩) 1 1) [r] :=
  hN ▸ ⟨hb.alloc hb.size _, ⟨by simp [rtcells_cons, rcs_len, rtcells_nil], .inr ⟨W.heap.size, 1, _, rfl, Nat.zero_le _, heap_alloc_new W _, Nat.le_refl _, by unfold maxLen; omega, by simp, by simp [rtcells, rcs]⟩⟩, fun k hk => by simp [Value.ownBlock] at hk; have := hb.size; omega⟩
theorem St.alloc {T : TypeId} {wr W : World} {v : Value} {l : List RT} (h : St T wr W v l) (o : Obj) : St T wr (W.alloc o) v l := ⟨h.1.alloc h.1.size _, h.2.below (Below.alloc (Below.refl _ _) (Nat.le_refl _) _)⟩
theorem St.app {T : TypeId} {wr W W' : World} {v v' : Value} {l m : List RT} {n : Nat} {xs : List Value} (h : St T wr W v l) (ha : Appended W v W' v') (hr : RowZ W' T 3 v' n xs) (hn : n = m.length) (hx : xs = rtcells m) : St T wr W' v' m := by
  obtain ⟨k1, k2, k3⟩ := app_own h.1 h.1.size h.2.2 ha
  subst hn hx
  exact ⟨k1, hr, k3⟩
theorem St.keep {T : TypeId} {wr W W' : World} {v v' v1 : Value} {m : List RT} (h : St T wr W v1 m) (hb : Below wr.heap.size wr W') (ha : Appended W v W' v') (hne : ∀ k, v1.ownBlock = some k → v.ownBlock ≠ some k) : St T wr W' v1 m := by
  exact ⟨hb, h.2.chg ha.chg (fun k hk => by simp; exact hne k hk)⟩
theorem St.apart {T : TypeId} {wr W W' : World} {v v' v1 : Value} {m : List RT} (h : St T wr W v1 m) (ha : Appended W v W' v') (hne : ∀ k, v1.ownBlock = some k → v.ownBlock ≠ some k) : ∀ k, v1.ownBlock = some k → v'.ownBlock ≠ some k := fun k hk e => by
  have := h.2.1.lt hk
  rcases ha.out e with e2 | e2
  · exact hne k hk e2
  · omega
theorem apart6 {T : TypeId} {wr W : World} {v : Value} {l : List RT} (h : St T wr W v l) (N : Nat) (hN : W.heap.size = N) (n c : Nat) : ∀ k, (Value.slice (some ⟨N, 0, none⟩) n c).ownBlock = some k → v.ownBlock ≠ some k := fun k hk e => by
  have := h.2.1.lt e
  simp [Value.ownBlock] at hk
  omega
theorem apart0 {T : TypeId} {wr W : World} {v : Value} {l : List RT} (h : St T wr W v l) (N : Nat) (hN : W.heap.size = N) (n c : Nat) : ∀ k, v.ownBlock = some k → (Value.slice (some ⟨N, 0, none⟩) n c).ownBlock ≠ some k := fun k hk e => by
  have := h.2.1.lt hk
  simp [Value.ownBlock] at e
  omega
theorem St.give {T : TypeId} {wr W : World} {v : Value} {l : List RT} (h : St T wr W v l) : Gives W v l.length (rtcells l) := Gives.of_row h.2.1
set_option maxRecDepth 100000 in
set_option maxHeartbeats 8000000 in
theorem ref13 {K : Exit → Act → World → Prop} (hK : ∀ c (a a' : Act) w, a.defers = a'.defers → K (.panic c) a w → K (.panic c) a' w) {wr : World} {Br N k : Nat} {o : List RT} {r : RT} {A4 : Value} {u0 u1 u2 u3 u5 u8 u9 u10 u11 u12 u13 u14 u15 u16 u17 u18 u19 u20 u21 u22 u23 u24 u25 u26 u27 u28 u29 u30 u31 u32 u33 u34 u35 u36 u37 u38 u39 u40 u41 u42 u43 u44 u45 u46 u47 u48 u49 u50 u51 u52 u53 u54 u55 u56 u57 u58 u59 u60 u61 u62 u63 u64 u65 u66 u67 u68 u69 u70 u71 u72 u73 u74 u75 u76 u77 u78 u79 u80 u81 u82 u83 u84 u85 : Value}
    (HRW : Hid (RtRow 66 wr N A4 o)) (hN : N ≤ wr.heap.size) (hBr : wr.heap[Br]? = some (.cells #[.string (bytes r.name), .string (bytes r.typ), .int .i64 r.id] 66 (0, 0))) (hk : k ≤ o.length) (hol : o.length ≤ 1000000)
    (hgo : ∀ (v4 v73 v74 v75 v76 v77 v78 v79 v80 v81 v82 v83 v84 : Value) (w : World), RtRow 66 w wr.heap.size v4 (o.take k ++ r :: o.drop k) → Below wr.heap.size wr w → K .normal { tmps := #[u0, u1, u2, u3, v4, u5, .pointer (some ⟨Br, 0, none⟩), .int .i64 (k : Int), u8, u9, u10, u11, u12, u13, u14, u15, u16, u17, u18, u19, u20, u21, u22, u23, u24, u25, u26, u27, u28, u29, u30, u31, u32, u33, u34, u35, u36, u37, u38, u39, u40, u41, u42, u43, u44, u45, u46, u47, u48, u49, u50, u51, u52, u53, u54, u55, u56, u57, u58, u59, u60, u61, u62, u63, u64, u65, u66, u67, u68, u69, u70, u71, u72, v73, v74, v75, v76, v77, v78, v79, v80, v81, v82, v83, v84, u85], defers := [] } w) :
    Code.wp Tryz.prog reg13 K { tmps := #[u0, u1, u2, u3, A4, u5, .pointer (some ⟨Br, 0, none⟩), .int .i64 (k : Int), u8, u9, u10, u11, u12, u13, u14, u15, u16, u17, u18, u19, u20, u21, u22, u23, u24, u25, u26, u27, u28, u29, u30, u31, u32, u33, u34, u35, u36, u37, u38, u39, u40, u41, u42, u43, u44, u45, u46, u47, u48, u49, u50, u51, u52, u53, u54, u55, u56, u57, u58, u59, u60, u61, u62, u63, u64, u65, u66, u67, u68, u69, u70, u71, u72, u73, u74, u75, u76, u77, u78, u79, u80, u81, u82, u83, u84, u85], defers := [] } wr := by
  have HGO := Lib.hid hgo
  clear hgo
  obtain ⟨a4, c4, rfl, hle4, hcm4, hnil4, _⟩ := HRW.out.at_
  have hBl := lt_of_block hBr
  have CB : Hid (∀ w', Below wr.heap.size wr w' → w'.cell? ⟨Br, 0, none⟩ = some (.string (bytes r.name)) ∧ w'.cell? ⟨Br, 1, none⟩ = some (.string (bytes r.typ)) ∧ w'.cell? ⟨Br, 2, none⟩ = some (.int .i64 r.id)) := fun W hW => by
    have h := (hW.block Br hBl).trans hBr
    exact ⟨by simp [World.cell?, h], by simp [World.cell?, h], by simp [World.cell?, h]⟩
  clear hBr
  have k0 : (0 : Int) ≤ (k : Int) := by omega
  have k1 : (k : Int) ≤ (o.length : Int) := by omega
  have k2 : (k : Int) ≤ (c4 : Int) := by omega
  have k3 : (o.length : Int) ≤ (c4 : Int) := by omega
  cases a4 with
  | some a =>
    obtain ⟨ao', cap', e', _, _, _, h4⟩ := HRW.out.1.form
    cases e'
    obtain ⟨g, rfl, _⟩ := h4 a rfl
    clear h4
    have SRC1 : Hid (∀ W, Below wr.heap.size wr W → Gives W (.slice (some ⟨g, 0, none⟩) k c4) k (rtcells (o.take k))) := fun W hW => by
      have h := Gives.upto (HRW.out.1.below hW (fun k hk => HRW.out.1.lt hk)) k hk c4
      rw [rtcells_take] at h
      rcases h with h | ⟨_, h⟩
      · exact h
      · cases h
    have SRC2 : Hid (∀ W c, Below wr.heap.size wr W → Gives W (.slice (if c4 = k then some ⟨g, 0, none⟩ else some ⟨g, k * 3, none⟩) (o.length - k) c) (o.length - k) (rtcells (o.drop k))) := fun W c hW => by
      by_cases hck : c4 = k
      · rw [if_pos hck]
        refine .inr ⟨_, c, rfl, fun j u hj => ?_⟩
        rw [List.drop_of_length_le (by omega)] at hj
        cases hj
      rw [if_neg hck]
      have h := Gives.mid (HRW.out.1.below hW (fun k hk => HRW.out.1.lt hk)) k (o.length - k) c (by rw [rtcells_length]; omega)
      rw [List.take_of_length_le (by rw [List.length_drop, rtcells_length]; omega), rtcells_drop] at h
      exact h
    conv => arg 2; whnf
    refine wp_region_lastL (S := fun w' => w'.cell? ⟨Br, 0, none⟩ = some (.string (bytes r.name)) ∧ w'.cell? ⟨Br, 1, none⟩ = some (.string (bytes r.typ)) ∧ w'.cell? ⟨Br, 2, none⟩ = some (.int .i64 r.id)) (by kernel_rfl) (by simp only [butLast]; rfl) (by simp only [lastOf]; rfl) (by kernel_rfl) (by kernel_rfl) ?_ (fun hHeld => ?_)
    focus exact CB.out _ (Below.drew (Below.refl _ _))
    try simp only [List.size_toArray, List.length_cons, List.length_nil]
    refine wpAnyH_take (i := 1) (v := ?_) rfl (by kernel_rfl) (by kernel_rfl) (by kernel_rfl) (fun _ _ _ h => hK _ _ _ _ (by rfl) h) (Or.inl ⟨by rfl, ?_⟩) (by assumption) ?_
    rotate_left
    focus (intro w hSw; (try dsimp only at hSw); go_simp; try with_reducible rfl)
    try simp only [Act.put, List.getElem_toArray, List.getElem_cons_zero, List.getElem_cons_succ, List.setIfInBounds_toArray, List.set_cons_zero, List.set_cons_succ, Nat.zero_add]
    refine wpAnyH_take (i := 2) (v := ?_) rfl (by kernel_rfl) (by kernel_rfl) (by kernel_rfl) (fun _ _ _ h => hK _ _ _ _ (by rfl) h) (Or.inl ⟨by rfl, ?_⟩) (by assumption) ?_
    rotate_left
    focus (intro w hSw; (try dsimp only at hSw); go_simp; try with_reducible rfl)
    try simp only [Act.put, List.getElem_toArray, List.getElem_cons_zero, List.getElem_cons_succ, List.setIfInBounds_toArray, List.set_cons_zero, List.set_cons_succ, Nat.zero_add]
    refine wpAnyH_take (i := 3) (v := ?_) rfl (by kernel_rfl) (by kernel_rfl) (by kernel_rfl) (fun _ _ _ h => hK _ _ _ _ (by rfl) h) (Or.inl ⟨by rfl, ?_⟩) (by assumption) ?_
    rotate_left
    focus (intro w hSw; (try dsimp only at hSw); go_simp; try with_reducible rfl)
    try simp only [Act.put, List.getElem_toArray, List.getElem_cons_zero, List.getElem_cons_succ, List.setIfInBounds_toArray, List.set_cons_zero, List.set_cons_succ, Nat.zero_add]
    refine wpAnyH_take (i := 5) (v := ?_) rfl (by kernel_rfl) (by kernel_rfl) (by kernel_rfl) (fun _ _ _ h => hK _ _ _ _ (by rfl) h) (Or.inl ⟨by rfl, ?_⟩) (by assumption) ?_
    rotate_left
    focus (intro w hSw; (try dsimp only at hSw); go_simp; try with_reducible rfl)
    try simp only [Act.put, List.getElem_toArray, List.getElem_cons_zero, List.getElem_cons_succ, List.setIfInBounds_toArray, List.set_cons_zero, List.set_cons_succ, Nat.zero_add]
    refine wpAnyH_take (i := 8) (v := ?_) rfl (by kernel_rfl) (by kernel_rfl) (by kernel_rfl) (fun _ _ _ h => hK _ _ _ _ (by rfl) h) (Or.inl ⟨by rfl, ?_⟩) (by assumption) ?_
    rotate_left
    focus (intro w hSw; (try dsimp only at hSw); go_simp; try with_reducible rfl)
    try simp only [Act.put, List.getElem_toArray, List.getElem_cons_zero, List.getElem_cons_succ, List.setIfInBounds_toArray, List.set_cons_zero, List.set_cons_succ, Nat.zero_add]
    refine wpAnyH_take (i := 9) (v := ?_) rfl (by kernel_rfl) (by kernel_rfl) (by kernel_rfl) (fun _ _ _ h => hK _ _ _ _ (by rfl) h) (Or.inl ⟨by rfl, ?_⟩) (by assumption) ?_
    rotate_left
    focus (intro w hSw; (try dsimp only at hSw); go_simp; try with_reducible rfl)
    try simp only [Act.put, List.getElem_toArray, List.getElem_cons_zero, List.getElem_cons_succ, List.setIfInBounds_toArray, List.set_cons_zero, List.set_cons_succ, Nat.zero_add]
    refine wpAnyH_take (i := 10) (v := ?_) rfl (by kernel_rfl) (by kernel_rfl) (by kernel_rfl) (fun _ _ _ h => hK _ _ _ _ (by rfl) h) (Or.inl ⟨by rfl, ?_⟩) (by assumption) ?_
    rotate_left
    focus (intro w hSw; (try dsimp only at hSw); go_simp; try with_reducible rfl)
    try simp only [Act.put, List.getElem_toArray, List.getElem_cons_zero, List.getElem_cons_succ, List.setIfInBounds_toArray, List.set_cons_zero, List.set_cons_succ, Nat.zero_add]
    have HW0 : Hid (Below wr.heap.size wr wr.drew) := Below.drew (Below.refl _ _)
    refine wpAnyH_ready (rs := [0, 6]) (by kernel_rfl) (by simp) ?_
    refine AllReadyH.cons rfl (fun K' hK => ?_) (AllReadyH.cons rfl (fun K' hK => ?_) (AllReadyH.nil))
    · go_simp
      have HA := Lib.hid (St.new 66 (HW0.out) wr.heap.size (by simp))
      refine hK.out _ _ (CB.out _ HA.out.1) (fun hHeld => ?_)
      clear hK K'
      try simp only [Act.put, List.getElem_toArray, List.getElem_cons_zero, List.getElem_cons_succ, List.setIfInBounds_toArray, List.set_cons_zero, List.set_cons_succ, Nat.zero_add, Nat.add_zero]
      refine wpAnyH_ready (rs := [4, 6]) (by kernel_rfl) (by simp) ?_
      refine AllReadyH.cons rfl (fun K' hK => ?_) (AllReadyH.cons rfl (fun K' hK => ?_) (AllReadyH.nil))
      · refine step_rows (n := 0) (m := k) (news := rtcells (o.take k)) (by rfl) _ _ 22 rfl Tryz.underlying22 infoRt8 rfl (by omega) (by rfl) HA.out.2.1 (by rfl) (SRC1.out _ HA.out.1) (by simp [rtcells_length] <;> omega) (rtcells_one _) (by omega) (by omega) ?_
        intro ao4 cap4 w4 hr4 ha4
        try simp only [Nat.zero_add, Nat.add_zero] at hr4 ha4
        have HA4 := Lib.hid (HA.out.app (m := o.take k) ha4 hr4 (by simp <;> omega) (by simp [rtcells_append, rtcells_cons, rtcells_nil]))
        
        have HR := Lib.hid hr4
        clear HA
        have HA := HA4
        clear HA4
        clear hr4 ha4
        refine hK.out _ _ (CB.out _ HA.out.1) (fun hHeld => ?_)
        clear hK K'
        try simp only [Act.put, List.getElem_toArray, List.getElem_cons_zero, List.getElem_cons_succ, List.setIfInBounds_toArray, List.set_cons_zero, List.set_cons_succ, Nat.zero_add, Nat.add_zero]
        refine wpAnyH_ready (rs := [6]) (by kernel_rfl) (by simp) ?_
        refine AllReadyH.cons rfl (fun K' hK => ?_) (AllReadyH.nil)
        · go_simp
          have HB := Lib.hid (St.one 66 (HA.out.1) r w4.heap.size (by simp))
          have HAP := HA
          clear HA
          have HA := Lib.hid (HAP.out.alloc (.cells #[.string (bytes r.name), .string (bytes r.typ), .int .i64 r.id] 66))
          have HRP := HR
          clear HR
          have HR := Lib.hid (RowZ.below HRP.out (Below.alloc (Below.refl _ _) (Nat.le_refl _) (.cells #[.string (bytes r.name), .string (bytes r.typ), .int .i64 r.id] 66)) (fun k hk => HRP.out.lt hk))
          clear HRP
          refine hK.out _ _ (CB.out _ HB.out.1) (fun hHeld => ?_)
          have HNE := Lib.hid (apart6 HAP.out w4.heap.size (by simp) 1 1)
          clear HAP
          clear hK K'
          try simp only [Act.put, List.getElem_toArray, List.getElem_cons_zero, List.getElem_cons_succ, List.setIfInBounds_toArray, List.set_cons_zero, List.set_cons_succ, Nat.zero_add, Nat.add_zero]
          refine wpAnyH_ready (rs := [7]) (by kernel_rfl) (by simp) ?_
          refine AllReadyH.cons rfl (fun K' hK => ?_) (AllReadyH.nil)
          · refine step_rows (n := k) (m := 1) (news := rtcells [r]) (by rfl) _ _ 22 rfl Tryz.underlying22 infoRt8 rfl (by omega) (by rfl) HR.out (by rfl) (HB.out.give) (by simp [rtcells_length] <;> omega) (rtcells_one _) (by omega) (by omega) ?_
            intro ao7 cap7 w7 hr7 ha7
            try simp only [Nat.zero_add, Nat.add_zero] at hr7 ha7
            have HA7 := Lib.hid (HA.out.app (m := o.take k ++ [r]) ha7 hr7 (by simp <;> omega) (by simp [rtcells_append, rtcells_cons, rtcells_nil]))
            clear HR
            have HR := Lib.hid hr7
            clear HA
            have HA := HA7
            clear HA7
            clear hr7 ha7
            refine hK.out _ _ (CB.out _ HA.out.1) (fun hHeld => ?_)
            clear hK K'
            try simp only [Act.put, List.getElem_toArray, List.getElem_cons_zero, List.getElem_cons_succ, List.setIfInBounds_toArray, List.set_cons_zero, List.set_cons_succ, Nat.zero_add, Nat.add_zero]
            refine wpAnyH_ready (rs := [11]) (by kernel_rfl) (by simp) ?_
            refine AllReadyH.cons rfl (fun K' hK => ?_) (AllReadyH.nil)
            · refine step_rows (n := (k + 1)) (m := (o.length - k)) (news := rtcells (o.drop k)) (by rfl) _ _ 22 rfl Tryz.underlying22 infoRt8 rfl (by omega) (by rfl) HR.out (by rfl) (SRC2.out _ _ HA.out.1) (by simp [rtcells_length] <;> omega) (rtcells_one _) (by omega) (by omega) ?_
              intro ao11 cap11 w11 hr11 ha11
              try simp only [Nat.zero_add, Nat.add_zero] at hr11 ha11
              have HA11 := Lib.hid (HA.out.app (m := (o.take k ++ [r]) ++ o.drop k) ha11 hr11 (by simp <;> omega) (by simp [rtcells_append, rtcells_cons, rtcells_nil]))
              clear HR
              have HR := Lib.hid hr11
              clear HA
              have HA := HA11
              clear HA11
              clear hr11 ha11
              refine hK.out _ _ (CB.out _ HA.out.1) (fun hHeld => ?_)
              clear hK K'
              try simp only [Act.put, List.getElem_toArray, List.getElem_cons_zero, List.getElem_cons_succ, List.setIfInBounds_toArray, List.set_cons_zero, List.set_cons_succ, Nat.zero_add, Nat.add_zero]
              refine wpAnyH_done (by kernel_rfl) ?_ _
              show Oper.wp _ _ _ _ _ _
              go_simp
              have HF := Lib.hid HA.out.2
              have HBW := Lib.hid HA.out.1
              refine HGO.out _ _ _ _ _ _ _ _ _ _ _ _ _ _ ?_ HBW.out
              rw [List.append_assoc, List.singleton_append] at HF
              exact HF.out
      · go_simp
        have HB := Lib.hid (St.one 66 (HA.out.1) r (wr.heap.size + 1) (by simp))
        have HAP := HA
        clear HA
        have HA := Lib.hid (HAP.out.alloc (.cells #[.string (bytes r.name), .string (bytes r.typ), .int .i64 r.id] 66))
        refine hK.out _ _ (CB.out _ HB.out.1) (fun hHeld => ?_)
        have HNE := Lib.hid (apart6 HAP.out (wr.heap.size + 1) (by simp) 1 1)
        clear HAP
        clear hK K'
        try simp only [Act.put, List.getElem_toArray, List.getElem_cons_zero, List.getElem_cons_succ, List.setIfInBounds_toArray, List.set_cons_zero, List.set_cons_succ, Nat.zero_add, Nat.add_zero]
        refine wpAnyH_ready (rs := [4]) (by kernel_rfl) (by simp) ?_
        refine AllReadyH.cons rfl (fun K' hK => ?_) (AllReadyH.nil)
        · refine step_rows (n := 0) (m := k) (news := rtcells (o.take k)) (by rfl) _ _ 22 rfl Tryz.underlying22 infoRt8 rfl (by omega) (by rfl) HA.out.2.1 (by rfl) (SRC1.out _ HA.out.1) (by simp [rtcells_length] <;> omega) (rtcells_one _) (by omega) (by omega) ?_
          intro ao4 cap4 w4 hr4 ha4
          try simp only [Nat.zero_add, Nat.add_zero] at hr4 ha4
          have HA4 := Lib.hid (HA.out.app (m := o.take k) ha4 hr4 (by simp <;> omega) (by simp [rtcells_append, rtcells_cons, rtcells_nil]))
          
          have HR := Lib.hid hr4
          have HNE4 := Lib.hid (HB.out.apart ha4 HNE.out)
          have HB4 := Lib.hid (HB.out.keep HA4.out.1 ha4 HNE.out)
          clear HNE HB
          have HNE := HNE4
          have HB := HB4
          clear HNE4 HB4
          clear HA
          have HA := HA4
          clear HA4
          clear hr4 ha4
          refine hK.out _ _ (CB.out _ HA.out.1) (fun hHeld => ?_)
          clear hK K'
          try simp only [Act.put, List.getElem_toArray, List.getElem_cons_zero, List.getElem_cons_succ, List.setIfInBounds_toArray, List.set_cons_zero, List.set_cons_succ, Nat.zero_add, Nat.add_zero]
          refine wpAnyH_ready (rs := [7]) (by kernel_rfl) (by simp) ?_
          refine AllReadyH.cons rfl (fun K' hK => ?_) (AllReadyH.nil)
          · refine step_rows (n := k) (m := 1) (news := rtcells [r]) (by rfl) _ _ 22 rfl Tryz.underlying22 infoRt8 rfl (by omega) (by rfl) HR.out (by rfl) (HB.out.give) (by simp [rtcells_length] <;> omega) (rtcells_one _) (by omega) (by omega) ?_
            intro ao7 cap7 w7 hr7 ha7
            try simp only [Nat.zero_add, Nat.add_zero] at hr7 ha7
            have HA7 := Lib.hid (HA.out.app (m := o.take k ++ [r]) ha7 hr7 (by simp <;> omega) (by simp [rtcells_append, rtcells_cons, rtcells_nil]))
            clear HR
            have HR := Lib.hid hr7
            clear HA
            have HA := HA7
            clear HA7
            clear hr7 ha7
            refine hK.out _ _ (CB.out _ HA.out.1) (fun hHeld => ?_)
            clear hK K'
            try simp only [Act.put, List.getElem_toArray, List.getElem_cons_zero, List.getElem_cons_succ, List.setIfInBounds_toArray, List.set_cons_zero, List.set_cons_succ, Nat.zero_add, Nat.add_zero]
            refine wpAnyH_ready (rs := [11]) (by kernel_rfl) (by simp) ?_
            refine AllReadyH.cons rfl (fun K' hK => ?_) (AllReadyH.nil)
            · refine step_rows (n := (k + 1)) (m := (o.length - k)) (news := rtcells (o.drop k)) (by rfl) _ _ 22 rfl Tryz.underlying22 infoRt8 rfl (by omega) (by rfl) HR.out (by rfl) (SRC2.out _ _ HA.out.1) (by simp [rtcells_length] <;> omega) (rtcells_one _) (by omega) (by omega) ?_
              intro ao11 cap11 w11 hr11 ha11
              try simp only [Nat.zero_add, Nat.add_zero] at hr11 ha11
              have HA11 := Lib.hid (HA.out.app (m := (o.take k ++ [r]) ++ o.drop k) ha11 hr11 (by simp <;> omega) (by simp [rtcells_append, rtcells_cons, rtcells_nil]))
              clear HR
              have HR := Lib.hid hr11
              clear HA
              have HA := HA11
              clear HA11
              clear hr11 ha11
              refine hK.out _ _ (CB.out _ HA.out.1) (fun hHeld => ?_)
              clear hK K'
              try simp only [Act.put, List.getElem_toArray, List.getElem_cons_zero, List.getElem_cons_succ, List.setIfInBounds_toArray, List.set_cons_zero, List.set_cons_succ, Nat.zero_add, Nat.add_zero]
              refine wpAnyH_done (by kernel_rfl) ?_ _
              show Oper.wp _ _ _ _ _ _
              go_simp
              have HF := Lib.hid HA.out.2
              have HBW := Lib.hid HA.out.1
              refine HGO.out _ _ _ _ _ _ _ _ _ _ _ _ _ _ ?_ HBW.out
              rw [List.append_assoc, List.singleton_append] at HF
              exact HF.out
    · go_simp
      have HB := Lib.hid (St.one 66 (HW0.out) r wr.heap.size (by simp))
      refine hK.out _ _ (CB.out _ HB.out.1) (fun hHeld => ?_)
      clear hK K'
      try simp only [Act.put, List.getElem_toArray, List.getElem_cons_zero, List.getElem_cons_succ, List.setIfInBounds_toArray, List.set_cons_zero, List.set_cons_succ, Nat.zero_add, Nat.add_zero]
      refine wpAnyH_ready (rs := [0]) (by kernel_rfl) (by simp) ?_
      refine AllReadyH.cons rfl (fun K' hK => ?_) (AllReadyH.nil)
      · go_simp
        have HA := Lib.hid (St.new 66 (HB.out.1) (wr.heap.size + 1) (by simp))
        have HBP := HB
        clear HB
        have HB := Lib.hid (HBP.out.alloc (.cells #[] 66))
        refine hK.out _ _ (CB.out _ HA.out.1) (fun hHeld => ?_)
        have HNE := Lib.hid (apart0 HBP.out (wr.heap.size + 1) (by simp) 0 0)
        clear HBP
        clear hK K'
        try simp only [Act.put, List.getElem_toArray, List.getElem_cons_zero, List.getElem_cons_succ, List.setIfInBounds_toArray, List.set_cons_zero, List.set_cons_succ, Nat.zero_add, Nat.add_zero]
        refine wpAnyH_ready (rs := [4]) (by kernel_rfl) (by simp) ?_
        refine AllReadyH.cons rfl (fun K' hK => ?_) (AllReadyH.nil)
        · refine step_rows (n := 0) (m := k) (news := rtcells (o.take k)) (by rfl) _ _ 22 rfl Tryz.underlying22 infoRt8 rfl (by omega) (by rfl) HA.out.2.1 (by rfl) (SRC1.out _ HA.out.1) (by simp [rtcells_length] <;> omega) (rtcells_one _) (by omega) (by omega) ?_
          intro ao4 cap4 w4 hr4 ha4
          try simp only [Nat.zero_add, Nat.add_zero] at hr4 ha4
          have HA4 := Lib.hid (HA.out.app (m := o.take k) ha4 hr4 (by simp <;> omega) (by simp [rtcells_append, rtcells_cons, rtcells_nil]))
          
          have HR := Lib.hid hr4
          have HNE4 := Lib.hid (HB.out.apart ha4 HNE.out)
          have HB4 := Lib.hid (HB.out.keep HA4.out.1 ha4 HNE.out)
          clear HNE HB
          have HNE := HNE4
          have HB := HB4
          clear HNE4 HB4
          clear HA
          have HA := HA4
          clear HA4
          clear hr4 ha4
          refine hK.out _ _ (CB.out _ HA.out.1) (fun hHeld => ?_)
          clear hK K'
          try simp only [Act.put, List.getElem_toArray, List.getElem_cons_zero, List.getElem_cons_succ, List.setIfInBounds_toArray, List.set_cons_zero, List.set_cons_succ, Nat.zero_add, Nat.add_zero]
          refine wpAnyH_ready (rs := [7]) (by kernel_rfl) (by simp) ?_
          refine AllReadyH.cons rfl (fun K' hK => ?_) (AllReadyH.nil)
          · refine step_rows (n := k) (m := 1) (news := rtcells [r]) (by rfl) _ _ 22 rfl Tryz.underlying22 infoRt8 rfl (by omega) (by rfl) HR.out (by rfl) (HB.out.give) (by simp [rtcells_length] <;> omega) (rtcells_one _) (by omega) (by omega) ?_
            intro ao7 cap7 w7 hr7 ha7
            try simp only [Nat.zero_add, Nat.add_zero] at hr7 ha7
            have HA7 := Lib.hid (HA.out.app (m := o.take k ++ [r]) ha7 hr7 (by simp <;> omega) (by simp [rtcells_append, rtcells_cons, rtcells_nil]))
            clear HR
            have HR := Lib.hid hr7
            clear HA
            have HA := HA7
            clear HA7
            clear hr7 ha7
            refine hK.out _ _ (CB.out _ HA.out.1) (fun hHeld => ?_)
            clear hK K'
            try simp only [Act.put, List.getElem_toArray, List.getElem_cons_zero, List.getElem_cons_succ, List.setIfInBounds_toArray, List.set_cons_zero, List.set_cons_succ, Nat.zero_add, Nat.add_zero]
            refine wpAnyH_ready (rs := [11]) (by kernel_rfl) (by simp) ?_
            refine AllReadyH.cons rfl (fun K' hK => ?_) (AllReadyH.nil)
            · refine step_rows (n := (k + 1)) (m := (o.length - k)) (news := rtcells (o.drop k)) (by rfl) _ _ 22 rfl Tryz.underlying22 infoRt8 rfl (by omega) (by rfl) HR.out (by rfl) (SRC2.out _ _ HA.out.1) (by simp [rtcells_length] <;> omega) (rtcells_one _) (by omega) (by omega) ?_
              intro ao11 cap11 w11 hr11 ha11
              try simp only [Nat.zero_add, Nat.add_zero] at hr11 ha11
              have HA11 := Lib.hid (HA.out.app (m := (o.take k ++ [r]) ++ o.drop k) ha11 hr11 (by simp <;> omega) (by simp [rtcells_append, rtcells_cons, rtcells_nil]))
              clear HR
              have HR := Lib.hid hr11
              clear HA
              have HA := HA11
              clear HA11
              clear hr11 ha11
              refine hK.out _ _ (CB.out _ HA.out.1) (fun hHeld => ?_)
              clear hK K'
              try simp only [Act.put, List.getElem_toArray, List.getElem_cons_zero, List.getElem_cons_succ, List.setIfInBounds_toArray, List.set_cons_zero, List.set_cons_succ, Nat.zero_add, Nat.add_zero]
              refine wpAnyH_done (by kernel_rfl) ?_ _
              show Oper.wp _ _ _ _ _ _
              go_simp
              have HF := Lib.hid HA.out.2
              have HBW := Lib.hid HA.out.1
              refine HGO.out _ _ _ _ _ _ _ _ _ _ _ _ _ _ ?_ HBW.out
              rw [List.append_assoc, List.singleton_append] at HF
              exact HF.out
  | none =>
    obtain ⟨rfl, h0⟩ := (⟨hnil4 rfl, by have := hnil4 rfl; omega⟩ : c4 = 0 ∧ o.length = 0)
    have ho : o = [] := List.length_eq_zero_iff.1 h0
    subst ho
    have hk0 : k = 0 := by omega
    subst hk0
    conv => arg 2; whnf
    refine wp_region_lastL (S := fun w' => w'.cell? ⟨Br, 0, none⟩ = some (.string (bytes r.name)) ∧ w'.cell? ⟨Br, 1, none⟩ = some (.string (bytes r.typ)) ∧ w'.cell? ⟨Br, 2, none⟩ = some (.int .i64 r.id)) (by kernel_rfl) (by simp only [butLast]; rfl) (by simp only [lastOf]; rfl) (by kernel_rfl) (by kernel_rfl) ?_ (fun hHeld => ?_)
    focus exact CB.out _ (Below.drew (Below.refl _ _))
    try simp only [List.size_toArray, List.length_cons, List.length_nil]
    refine wpAnyH_take (i := 1) (v := ?_) rfl (by kernel_rfl) (by kernel_rfl) (by kernel_rfl) (fun _ _ _ h => hK _ _ _ _ (by rfl) h) (Or.inl ⟨by rfl, ?_⟩) (by assumption) ?_
    rotate_left
    focus (intro w hSw; (try dsimp only at hSw); go_simp; try with_reducible rfl)
    try simp only [Act.put, List.getElem_toArray, List.getElem_cons_zero, List.getElem_cons_succ, List.setIfInBounds_toArray, List.set_cons_zero, List.set_cons_succ, Nat.zero_add]
    refine wpAnyH_take (i := 2) (v := ?_) rfl (by kernel_rfl) (by kernel_rfl) (by kernel_rfl) (fun _ _ _ h => hK _ _ _ _ (by rfl) h) (Or.inl ⟨by rfl, ?_⟩) (by assumption) ?_
    rotate_left
    focus (intro w hSw; (try dsimp only at hSw); go_simp; try with_reducible rfl)
    try simp only [Act.put, List.getElem_toArray, List.getElem_cons_zero, List.getElem_cons_succ, List.setIfInBounds_toArray, List.set_cons_zero, List.set_cons_succ, Nat.zero_add]
    refine wpAnyH_take (i := 3) (v := ?_) rfl (by kernel_rfl) (by kernel_rfl) (by kernel_rfl) (fun _ _ _ h => hK _ _ _ _ (by rfl) h) (Or.inl ⟨by rfl, ?_⟩) (by assumption) ?_
    rotate_left
    focus (intro w hSw; (try dsimp only at hSw); go_simp; try with_reducible rfl)
    try simp only [Act.put, List.getElem_toArray, List.getElem_cons_zero, List.getElem_cons_succ, List.setIfInBounds_toArray, List.set_cons_zero, List.set_cons_succ, Nat.zero_add]
    refine wpAnyH_take (i := 5) (v := ?_) rfl (by kernel_rfl) (by kernel_rfl) (by kernel_rfl) (fun _ _ _ h => hK _ _ _ _ (by rfl) h) (Or.inl ⟨by rfl, ?_⟩) (by assumption) ?_
    rotate_left
    focus (intro w hSw; (try dsimp only at hSw); go_simp; try with_reducible rfl)
    try simp only [Act.put, List.getElem_toArray, List.getElem_cons_zero, List.getElem_cons_succ, List.setIfInBounds_toArray, List.set_cons_zero, List.set_cons_succ, Nat.zero_add]
    refine wpAnyH_take (i := 8) (v := ?_) rfl (by kernel_rfl) (by kernel_rfl) (by kernel_rfl) (fun _ _ _ h => hK _ _ _ _ (by rfl) h) (Or.inl ⟨by rfl, ?_⟩) (by assumption) ?_
    rotate_left
    focus (intro w hSw; (try dsimp only at hSw); go_simp; try with_reducible rfl)
    try simp only [Act.put, List.getElem_toArray, List.getElem_cons_zero, List.getElem_cons_succ, List.setIfInBounds_toArray, List.set_cons_zero, List.set_cons_succ, Nat.zero_add]
    refine wpAnyH_take (i := 9) (v := ?_) rfl (by kernel_rfl) (by kernel_rfl) (by kernel_rfl) (fun _ _ _ h => hK _ _ _ _ (by rfl) h) (Or.inl ⟨by rfl, ?_⟩) (by assumption) ?_
    rotate_left
    focus (intro w hSw; (try dsimp only at hSw); go_simp; try with_reducible rfl)
    try simp only [Act.put, List.getElem_toArray, List.getElem_cons_zero, List.getElem_cons_succ, List.setIfInBounds_toArray, List.set_cons_zero, List.set_cons_succ, Nat.zero_add]
    refine wpAnyH_take (i := 10) (v := ?_) rfl (by kernel_rfl) (by kernel_rfl) (by kernel_rfl) (fun _ _ _ h => hK _ _ _ _ (by rfl) h) (Or.inl ⟨by rfl, ?_⟩) (by assumption) ?_
    rotate_left
    focus (intro w hSw; (try dsimp only at hSw); go_simp; try with_reducible rfl)
    try simp only [Act.put, List.getElem_toArray, List.getElem_cons_zero, List.getElem_cons_succ, List.setIfInBounds_toArray, List.set_cons_zero, List.set_cons_succ, Nat.zero_add]
    have HW0 : Hid (Below wr.heap.size wr wr.drew) := Below.drew (Below.refl _ _)
    refine wpAnyH_ready (rs := [0, 6]) (by kernel_rfl) (by simp) ?_
    refine AllReadyH.cons rfl (fun K' hK => ?_) (AllReadyH.cons rfl (fun K' hK => ?_) (AllReadyH.nil))
    · go_simp
      have HA := Lib.hid (St.new 66 (HW0.out) wr.heap.size (by simp))
      refine hK.out _ _ (CB.out _ HA.out.1) (fun hHeld => ?_)
      clear hK K'
      try simp only [Act.put, List.getElem_toArray, List.getElem_cons_zero, List.getElem_cons_succ, List.setIfInBounds_toArray, List.set_cons_zero, List.set_cons_succ, Nat.zero_add, Nat.add_zero]
      refine wpAnyH_ready (rs := [4, 6]) (by kernel_rfl) (by simp) ?_
      refine AllReadyH.cons rfl (fun K' hK => ?_) (AllReadyH.cons rfl (fun K' hK => ?_) (AllReadyH.nil))
      · refine step_rows (n := 0) (m := 0) (news := ([] : List Value)) (by rfl) _ _ 22 rfl Tryz.underlying22 infoRt8 rfl (by omega) (by rfl) HA.out.2.1 (by rfl) (gives_none _) (by simp) ((fun u hu => by cases hu)) (by omega) (by omega) ?_
        intro ao4 cap4 w4 hr4 ha4
        try simp only [Nat.zero_add, Nat.add_zero] at hr4 ha4
        have HA4 := Lib.hid (HA.out.app (m := []) ha4 hr4 (by simp <;> omega) (by simp [rtcells_append, rtcells_cons, rtcells_nil]))
        
        have HR := Lib.hid hr4
        clear HA
        have HA := HA4
        clear HA4
        clear hr4 ha4
        refine hK.out _ _ (CB.out _ HA.out.1) (fun hHeld => ?_)
        clear hK K'
        try simp only [Act.put, List.getElem_toArray, List.getElem_cons_zero, List.getElem_cons_succ, List.setIfInBounds_toArray, List.set_cons_zero, List.set_cons_succ, Nat.zero_add, Nat.add_zero]
        refine wpAnyH_ready (rs := [6]) (by kernel_rfl) (by simp) ?_
        refine AllReadyH.cons rfl (fun K' hK => ?_) (AllReadyH.nil)
        · go_simp
          have HB := Lib.hid (St.one 66 (HA.out.1) r w4.heap.size (by simp))
          have HAP := HA
          clear HA
          have HA := Lib.hid (HAP.out.alloc (.cells #[.string (bytes r.name), .string (bytes r.typ), .int .i64 r.id] 66))
          have HRP := HR
          clear HR
          have HR := Lib.hid (RowZ.below HRP.out (Below.alloc (Below.refl _ _) (Nat.le_refl _) (.cells #[.string (bytes r.name), .string (bytes r.typ), .int .i64 r.id] 66)) (fun k hk => HRP.out.lt hk))
          clear HRP
          refine hK.out _ _ (CB.out _ HB.out.1) (fun hHeld => ?_)
          have HNE := Lib.hid (apart6 HAP.out w4.heap.size (by simp) 1 1)
          clear HAP
          clear hK K'
          try simp only [Act.put, List.getElem_toArray, List.getElem_cons_zero, List.getElem_cons_succ, List.setIfInBounds_toArray, List.set_cons_zero, List.set_cons_succ, Nat.zero_add, Nat.add_zero]
          refine wpAnyH_ready (rs := [7]) (by kernel_rfl) (by simp) ?_
          refine AllReadyH.cons rfl (fun K' hK => ?_) (AllReadyH.nil)
          · refine step_rows (n := 0) (m := 1) (news := rtcells [r]) (by rfl) _ _ 22 rfl Tryz.underlying22 infoRt8 rfl (by omega) (by rfl) HR.out (by rfl) (HB.out.give) (by simp [rtcells_length] <;> omega) (rtcells_one _) (by omega) (by omega) ?_
            intro ao7 cap7 w7 hr7 ha7
            try simp only [Nat.zero_add, Nat.add_zero] at hr7 ha7
            have HA7 := Lib.hid (HA.out.app (m := [r]) ha7 hr7 (by simp <;> omega) (by simp [rtcells_append, rtcells_cons, rtcells_nil]))
            clear HR
            have HR := Lib.hid hr7
            clear HA
            have HA := HA7
            clear HA7
            clear hr7 ha7
            refine hK.out _ _ (CB.out _ HA.out.1) (fun hHeld => ?_)
            clear hK K'
            try simp only [Act.put, List.getElem_toArray, List.getElem_cons_zero, List.getElem_cons_succ, List.setIfInBounds_toArray, List.set_cons_zero, List.set_cons_succ, Nat.zero_add, Nat.add_zero]
            refine wpAnyH_ready (rs := [11]) (by kernel_rfl) (by simp) ?_
            refine AllReadyH.cons rfl (fun K' hK => ?_) (AllReadyH.nil)
            · refine step_rows (n := 1) (m := 0) (news := ([] : List Value)) (by rfl) _ _ 22 rfl Tryz.underlying22 infoRt8 rfl (by omega) (by rfl) HR.out (by rfl) (gives_none _) (by simp) ((fun u hu => by cases hu)) (by omega) (by omega) ?_
              intro ao11 cap11 w11 hr11 ha11
              try simp only [Nat.zero_add, Nat.add_zero] at hr11 ha11
              have HA11 := Lib.hid (HA.out.app (m := [r]) ha11 hr11 (by simp <;> omega) (by simp [rtcells_append, rtcells_cons, rtcells_nil]))
              clear HR
              have HR := Lib.hid hr11
              clear HA
              have HA := HA11
              clear HA11
              clear hr11 ha11
              refine hK.out _ _ (CB.out _ HA.out.1) (fun hHeld => ?_)
              clear hK K'
              try simp only [Act.put, List.getElem_toArray, List.getElem_cons_zero, List.getElem_cons_succ, List.setIfInBounds_toArray, List.set_cons_zero, List.set_cons_succ, Nat.zero_add, Nat.add_zero]
              refine wpAnyH_done (by kernel_rfl) ?_ _
              show Oper.wp _ _ _ _ _ _
              go_simp
              have HF := Lib.hid HA.out.2
              have HBW := Lib.hid HA.out.1
              refine HGO.out _ _ _ _ _ _ _ _ _ _ _ _ _ _ ?_ HBW.out
              exact HF.out
      · go_simp
        have HB := Lib.hid (St.one 66 (HA.out.1) r (wr.heap.size + 1) (by simp))
        have HAP := HA
        clear HA
        have HA := Lib.hid (HAP.out.alloc (.cells #[.string (bytes r.name), .string (bytes r.typ), .int .i64 r.id] 66))
        refine hK.out _ _ (CB.out _ HB.out.1) (fun hHeld => ?_)
        have HNE := Lib.hid (apart6 HAP.out (wr.heap.size + 1) (by simp) 1 1)
        clear HAP
        clear hK K'
        try simp only [Act.put, List.getElem_toArray, List.getElem_cons_zero, List.getElem_cons_succ, List.setIfInBounds_toArray, List.set_cons_zero, List.set_cons_succ, Nat.zero_add, Nat.add_zero]
        refine wpAnyH_ready (rs := [4]) (by kernel_rfl) (by simp) ?_
        refine AllReadyH.cons rfl (fun K' hK => ?_) (AllReadyH.nil)
        · refine step_rows (n := 0) (m := 0) (news := ([] : List Value)) (by rfl) _ _ 22 rfl Tryz.underlying22 infoRt8 rfl (by omega) (by rfl) HA.out.2.1 (by rfl) (gives_none _) (by simp) ((fun u hu => by cases hu)) (by omega) (by omega) ?_
          intro ao4 cap4 w4 hr4 ha4
          try simp only [Nat.zero_add, Nat.add_zero] at hr4 ha4
          have HA4 := Lib.hid (HA.out.app (m := []) ha4 hr4 (by simp <;> omega) (by simp [rtcells_append, rtcells_cons, rtcells_nil]))
          
          have HR := Lib.hid hr4
          have HNE4 := Lib.hid (HB.out.apart ha4 HNE.out)
          have HB4 := Lib.hid (HB.out.keep HA4.out.1 ha4 HNE.out)
          clear HNE HB
          have HNE := HNE4
          have HB := HB4
          clear HNE4 HB4
          clear HA
          have HA := HA4
          clear HA4
          clear hr4 ha4
          refine hK.out _ _ (CB.out _ HA.out.1) (fun hHeld => ?_)
          clear hK K'
          try simp only [Act.put, List.getElem_toArray, List.getElem_cons_zero, List.getElem_cons_succ, List.setIfInBounds_toArray, List.set_cons_zero, List.set_cons_succ, Nat.zero_add, Nat.add_zero]
          refine wpAnyH_ready (rs := [7]) (by kernel_rfl) (by simp) ?_
          refine AllReadyH.cons rfl (fun K' hK => ?_) (AllReadyH.nil)
          · refine step_rows (n := 0) (m := 1) (news := rtcells [r]) (by rfl) _ _ 22 rfl Tryz.underlying22 infoRt8 rfl (by omega) (by rfl) HR.out (by rfl) (HB.out.give) (by simp [rtcells_length] <;> omega) (rtcells_one _) (by omega) (by omega) ?_
            intro ao7 cap7 w7 hr7 ha7
            try simp only [Nat.zero_add, Nat.add_zero] at hr7 ha7
            have HA7 := Lib.hid (HA.out.app (m := [r]) ha7 hr7 (by simp <;> omega) (by simp [rtcells_append, rtcells_cons, rtcells_nil]))
            clear HR
            have HR := Lib.hid hr7
            clear HA
            have HA := HA7
            clear HA7
            clear hr7 ha7
            refine hK.out _ _ (CB.out _ HA.out.1) (fun hHeld => ?_)
            clear hK K'
            try simp only [Act.put, List.getElem_toArray, List.getElem_cons_zero, List.getElem_cons_succ, List.setIfInBounds_toArray, List.set_cons_zero, List.set_cons_succ, Nat.zero_add, Nat.add_zero]
            refine wpAnyH_ready (rs := [11]) (by kernel_rfl) (by simp) ?_
            refine AllReadyH.cons rfl (fun K' hK => ?_) (AllReadyH.nil)
            · refine step_rows (n := 1) (m := 0) (news := ([] : List Value)) (by rfl) _ _ 22 rfl Tryz.underlying22 infoRt8 rfl (by omega) (by rfl) HR.out (by rfl) (gives_none _) (by simp) ((fun u hu => by cases hu)) (by omega) (by omega) ?_
              intro ao11 cap11 w11 hr11 ha11
              try simp only [Nat.zero_add, Nat.add_zero] at hr11 ha11
              have HA11 := Lib.hid (HA.out.app (m := [r]) ha11 hr11 (by simp <;> omega) (by simp [rtcells_append, rtcells_cons, rtcells_nil]))
              clear HR
              have HR := Lib.hid hr11
              clear HA
              have HA := HA11
              clear HA11
              clear hr11 ha11
              refine hK.out _ _ (CB.out _ HA.out.1) (fun hHeld => ?_)
              clear hK K'
              try simp only [Act.put, List.getElem_toArray, List.getElem_cons_zero, List.getElem_cons_succ, List.setIfInBounds_toArray, List.set_cons_zero, List.set_cons_succ, Nat.zero_add, Nat.add_zero]
              refine wpAnyH_done (by kernel_rfl) ?_ _
              show Oper.wp _ _ _ _ _ _
              go_simp
              have HF := Lib.hid HA.out.2
              have HBW := Lib.hid HA.out.1
              refine HGO.out _ _ _ _ _ _ _ _ _ _ _ _ _ _ ?_ HBW.out
              exact HF.out
    · go_simp
      have HB := Lib.hid (St.one 66 (HW0.out) r wr.heap.size (by simp))
      refine hK.out _ _ (CB.out _ HB.out.1) (fun hHeld => ?_)
      clear hK K'
      try simp only [Act.put, List.getElem_toArray, List.getElem_cons_zero, List.getElem_cons_succ, List.setIfInBounds_toArray, List.set_cons_zero, List.set_cons_succ, Nat.zero_add, Nat.add_zero]
      refine wpAnyH_ready (rs := [0]) (by kernel_rfl) (by simp) ?_
      refine AllReadyH.cons rfl (fun K' hK => ?_) (AllReadyH.nil)
      · go_simp
        have HA := Lib.hid (St.new 66 (HB.out.1) (wr.heap.size + 1) (by simp))
        have HBP := HB
        clear HB
        have HB := Lib.hid (HBP.out.alloc (.cells #[] 66))
        refine hK.out _ _ (CB.out _ HA.out.1) (fun hHeld => ?_)
        have HNE := Lib.hid (apart0 HBP.out (wr.heap.size + 1) (by simp) 0 0)
        clear HBP
        clear hK K'
        try simp only [Act.put, List.getElem_toArray, List.getElem_cons_zero, List.getElem_cons_succ, List.setIfInBounds_toArray, List.set_cons_zero, List.set_cons_succ, Nat.zero_add, Nat.add_zero]
        refine wpAnyH_ready (rs := [4]) (by kernel_rfl) (by simp) ?_
        refine AllReadyH.cons rfl (fun K' hK => ?_) (AllReadyH.nil)
        · refine step_rows (n := 0) (m := 0) (news := ([] : List Value)) (by rfl) _ _ 22 rfl Tryz.underlying22 infoRt8 rfl (by omega) (by rfl) HA.out.2.1 (by rfl) (gives_none _) (by simp) ((fun u hu => by cases hu)) (by omega) (by omega) ?_
          intro ao4 cap4 w4 hr4 ha4
          try simp only [Nat.zero_add, Nat.add_zero] at hr4 ha4
          have HA4 := Lib.hid (HA.out.app (m := []) ha4 hr4 (by simp <;> omega) (by simp [rtcells_append, rtcells_cons, rtcells_nil]))
          
          have HR := Lib.hid hr4
          have HNE4 := Lib.hid (HB.out.apart ha4 HNE.out)
          have HB4 := Lib.hid (HB.out.keep HA4.out.1 ha4 HNE.out)
          clear HNE HB
          have HNE := HNE4
          have HB := HB4
          clear HNE4 HB4
          clear HA
          have HA := HA4
          clear HA4
          clear hr4 ha4
          refine hK.out _ _ (CB.out _ HA.out.1) (fun hHeld => ?_)
          clear hK K'
          try simp only [Act.put, List.getElem_toArray, List.getElem_cons_zero, List.getElem_cons_succ, List.setIfInBounds_toArray, List.set_cons_zero, List.set_cons_succ, Nat.zero_add, Nat.add_zero]
          refine wpAnyH_ready (rs := [7]) (by kernel_rfl) (by simp) ?_
          refine AllReadyH.cons rfl (fun K' hK => ?_) (AllReadyH.nil)
          · refine step_rows (n := 0) (m := 1) (news := rtcells [r]) (by rfl) _ _ 22 rfl Tryz.underlying22 infoRt8 rfl (by omega) (by rfl) HR.out (by rfl) (HB.out.give) (by simp [rtcells_length] <;> omega) (rtcells_one _) (by omega) (by omega) ?_
            intro ao7 cap7 w7 hr7 ha7
            try simp only [Nat.zero_add, Nat.add_zero] at hr7 ha7
            have HA7 := Lib.hid (HA.out.app (m := [r]) ha7 hr7 (by simp <;> omega) (by simp [rtcells_append, rtcells_cons, rtcells_nil]))
            clear HR
            have HR := Lib.hid hr7
            clear HA
            have HA := HA7
            clear HA7
            clear hr7 ha7
            refine hK.out _ _ (CB.out _ HA.out.1) (fun hHeld => ?_)
            clear hK K'
            try simp only [Act.put, List.getElem_toArray, List.getElem_cons_zero, List.getElem_cons_succ, List.setIfInBounds_toArray, List.set_cons_zero, List.set_cons_succ, Nat.zero_add, Nat.add_zero]
            refine wpAnyH_ready (rs := [11]) (by kernel_rfl) (by simp) ?_
            refine AllReadyH.cons rfl (fun K' hK => ?_) (AllReadyH.nil)
            · refine step_rows (n := 1) (m := 0) (news := ([] : List Value)) (by rfl) _ _ 22 rfl Tryz.underlying22 infoRt8 rfl (by omega) (by rfl) HR.out (by rfl) (gives_none _) (by simp) ((fun u hu => by cases hu)) (by omega) (by omega) ?_
              intro ao11 cap11 w11 hr11 ha11
              try simp only [Nat.zero_add, Nat.add_zero] at hr11 ha11
              have HA11 := Lib.hid (HA.out.app (m := [r]) ha11 hr11 (by simp <;> omega) (by simp [rtcells_append, rtcells_cons, rtcells_nil]))
              clear HR
              have HR := Lib.hid hr11
              clear HA
              have HA := HA11
              clear HA11
              clear hr11 ha11
              refine hK.out _ _ (CB.out _ HA.out.1) (fun hHeld => ?_)
              clear hK K'
              try simp only [Act.put, List.getElem_toArray, List.getElem_cons_zero, List.getElem_cons_succ, List.setIfInBounds_toArray, List.set_cons_zero, List.set_cons_succ, Nat.zero_add, Nat.add_zero]
              refine wpAnyH_done (by kernel_rfl) ?_ _
              show Oper.wp _ _ _ _ _ _
              go_simp
              have HF := Lib.hid HA.out.2
              have HBW := Lib.hid HA.out.1
              refine HGO.out _ _ _ _ _ _ _ _ _ _ _ _ _ _ ?_ HBW.out
              exact HF.out
end Go.Proofs.YtenikoecnfbfoaaGreatDoor
/- Layer 8: the document's sorted. -/
namespace Go.Proofs.YtenikoecnfbfoaaGreatDoor
open Go.RowKit
set_option linter.unusedVariables false
set_option linter.unusedSimpArgs false
open Gr (RT sortO insR ltN)

theorem ltN_less : ∀ a b : List UInt8, Op.bytesLess a b = ltN a b
  | [], [] => rfl
  | _ :: _, [] => rfl
  | [], _ :: _ => rfl
  | x :: a, y :: b => by
    have ih := ltN_less a b
    unfold ltN at ih ⊢
    unfold Op.bytesLess Lib.compareBytes
    by_cases h1 : x < y
    · simp [h1]
    · by_cases h2 : y < x
      · have h3 : x ≠ y := fun e => by subst e; exact UInt8.lt_irrefl _ h2
        simp [h1, h2, h3]
      · have h3 : x = y := UInt8.le_antisymm (UInt8.not_lt.1 h2) (UInt8.not_lt.1 h1)
        subst h3
        simp [h1, ih]
theorem less_bytes (a b : List UInt8) : Op.bytesLess (bytes a).toList (bytes b).toList = ltN a b := by
  rw [ByteArray.toList_eq, ByteArray.toList_eq]
  exact ltN_less a b
theorem eq_bytes (a b : List UInt8) : ((bytes a).toList == (bytes b).toList) = (a == b) := by
  rw [ByteArray.toList_eq, ByteArray.toList_eq]
  rfl
theorem ok_iff' (r : RT) : r.ok = true ↔ r.name ≠ [] ∧ r.name.length ≤ 40 ∧ r.typ.length ≤ 1000 ∧ 1 ≤ r.id ∧ r.id ≤ 1099511627776 := by
  unfold RT.ok
  simp only [Bool.and_eq_true, Bool.not_eq_true', decide_eq_true_eq, List.isEmpty_eq_false_iff, and_assoc]
theorem bytes_empty' (l : List UInt8) : (bytes l).toList.isEmpty = l.isEmpty := by rw [ByteArray.toList_eq]; simp [bytes]
theorem RtAt.cells {w : World} {v : Value} {l : List RT} (h : RtAt w v l) : ∃ ao cap, v = .slice ao l.length cap ∧ ∀ (j : Nat) r, l[j]? = some r → ∃ b off, ao = some ⟨b, off, none⟩ ∧ b < w.heap.size ∧ w.cell? ⟨b, off + j * 3, none⟩ = some (.string (bytes r.name)) ∧ w.cell? ⟨b, off + j * 3 + 1, none⟩ = some (.string (bytes r.typ)) ∧ w.cell? ⟨b, off + j * 3 + 2, none⟩ = some (.int .i64 r.id) := by
  obtain ⟨ao, cap, hv, _, _, _, hbk, hcl⟩ := h
  refine ⟨ao, cap, hv, fun j r hj => ?_⟩
  obtain ⟨g1, g2, g3⟩ := rtcells_get hj
  obtain ⟨b, off, e1, e2⟩ := hcl _ _ g1
  obtain ⟨b2, off2, e3, e4⟩ := hcl _ _ g2
  obtain ⟨b3, off3, e5, e6⟩ := hcl _ _ g3
  rw [e1] at e3 e5
  cases e3
  cases e5
  exact ⟨b, off, e1, (hbk b off none e1).2, e2, e4, e6⟩
/-- The document's sorted, ended. -/
def RSrtEnd (w : World) (l : List RT) (e : Ending) (w' : World) : Prop :=
  ∃ v, e = .returned (.tuple #[v, .bool (sortO l []).isSome]) ∧ (∀ s, sortO l [] = some s → RtRow 66 w' w.heap.size v s) ∧ (sortO l [] = none → v = .slice none 0 0) ∧ Below w.heap.size w w'
def RsLoop (w : World) (l : List RT) (gk : Nat) (s4 s5 : Value) (wr : World) : Prop :=
  ∃ (i : Nat) (o : List RT), i + gk = l.length ∧ s5 = .int .i64 (i : Int) ∧ RtRow 66 wr w.heap.size s4 o ∧ sortO l [] = sortO (l.drop i) o ∧ Gr.Rise o ∧ o.length = i ∧ Below w.heap.size w wr
def RkLoop (w1 : World) (o : List RT) (r : RT) (gk : Nat) (s7 : Value) (wr : World) : Prop :=
  ∃ k : Nat, k + gk = o.length ∧ s7 = .int .i64 (k : Int) ∧ (∀ j x, j < k → o[j]? = some x → ltN x.name r.name = true) ∧ Below w1.heap.size w1 wr
set_option maxRecDepth 100000 in
set_option maxHeartbeats 8000000 in
theorem refSorted_any (w : World) (v : Value) (l : List RT) (h : RtAt w v l) (hl : l.length ≤ 1000000) (hsz : ∀ r ∈ l, r.name.length ≤ 1000000 ∧ r.typ.length ≤ 1000000) :
    Calls Tryz.prog 31 #[v] w (RSrtEnd w l) := by
  obtain ⟨ao, cap, rfl, hcc⟩ := h.cells
  have HCC := Lib.hid hcc
  have hl2 : (l.length : Int) ≤ 1000000 := by omega
  have HD := Lib.hid hsz
  clear h hl hsz hcc
  go_enter Tryz.func31, Tryz.ntmps31
  go_wp2
  go_loopg [4, 5] l.length (fun gk s4 s5 wr => RsLoop w l gk s4 s5 wr)
  case atStart => exact ⟨0, [], by omega, rfl, RtRow.nil _ _ _, rfl, .nil, rfl, Below.refl _ _⟩
  case round =>
    obtain ⟨i, o, hi, rfl, hrow, hso, hri, hol, hb⟩ := hrel
    have HI := Lib.hid hi
    have HROW := Lib.hid hrow
    have HSO := Lib.hid hso
    have HRI := Lib.hid hri
    have HB := Lib.hid hb
    obtain ⟨a4, c4, h4, _⟩ := hrow.at_
    subst h4
    by_cases hlt : i < l.length
    · obtain ⟨r, hr⟩ : ∃ r, l[i]? = some r := ⟨_, List.getElem?_eq_getElem hlt⟩
      have hds : l.drop i = r :: l.drop (i + 1) := by rw [List.drop_eq_getElem_cons hlt, (List.getElem?_eq_some_iff.1 hr).2]
      obtain ⟨b, off, rfl, hbl, c0, c1, c2⟩ := HCC.out i r hr
      have z0 := (hb.cell (p := ⟨b, off + i * 3, none⟩) hbl).trans c0
      have z1 := (hb.cell (p := ⟨b, off + i * 3 + 1, none⟩) hbl).trans c1
      have z2 := (hb.cell (p := ⟨b, off + i * 3 + 2, none⟩) hbl).trans c2
      have i0 : (0 : Int) ≤ (i : Int) := by omega
      have i1 : (i : Int) < (l.length : Int) := by omega
      have HLT := Lib.hid hlt
      have HOK := Lib.hid (ok_iff' r)
      have HDS := Lib.hid hds
      obtain ⟨hn1, hn2⟩ := HD.out r (List.mem_of_getElem? hr)
      have s1 : ((bytes r.name).size : Int) = (r.name.length : Int) := by rw [bytes_size]
      have s2 : ((bytes r.typ).size : Int) = (r.typ.length : Int) := by rw [bytes_size]
      have se := bytes_empty' r.name
      have HOL := Lib.hid hol
      have ol1 : (o.length : Int) ≤ 1000000 := by omega
      clear c0 c1 c2 hi hso hri hrow hds hol
      by_cases h1 : r.name = []
      · have e1 : (bytes r.name).toList.isEmpty = true := by rw [se, h1]; rfl
        clear se
        have HSN : Hid (sortO l [] = none) := by show _ = _; rw [HSO.out, HDS.out]; unfold sortO; rw [show r.ok = false from Bool.eq_false_iff.2 (fun h => (HOK.out.1 h).1 h1)]; rfl
        clear h1
        go_wp2
        go_ret2
        refine ⟨.slice none 0 0, ?_, fun s hs => ?_, fun hn => ?_, HB.out.alloc HB.out.size _⟩
        · rw [HSN.out]; rfl
        · rw [HSN.out] at hs; cases hs
        · rfl
      · have e1 : (bytes r.name).toList.isEmpty = false := by rw [se]; simpa using h1
        clear se
        by_cases h2 : (40 : Int) < (r.name.length : Int)
        · have d2 : (40 : Int) < ((bytes r.name).size : Int) := by omega
          have HSN : Hid (sortO l [] = none) := by show _ = _; rw [HSO.out, HDS.out]; unfold sortO; rw [show r.ok = false from Bool.eq_false_iff.2 (fun h => by have := HOK.out.1 h; omega)]; rfl
          go_wp2
          go_ret2
          refine ⟨.slice none 0 0, ?_, fun s hs => ?_, fun hn => ?_, HB.out.alloc HB.out.size _⟩
          · rw [HSN.out]; rfl
          · rw [HSN.out] at hs; cases hs
          · rfl
        · have d2 : ¬ (40 : Int) < ((bytes r.name).size : Int) := by omega
          by_cases h3 : (1000 : Int) < (r.typ.length : Int)
          · have d3 : (1000 : Int) < ((bytes r.typ).size : Int) := by omega
            have HSN : Hid (sortO l [] = none) := by show _ = _; rw [HSO.out, HDS.out]; unfold sortO; rw [show r.ok = false from Bool.eq_false_iff.2 (fun h => by have := HOK.out.1 h; omega)]; rfl
            go_wp2
            go_ret2
            refine ⟨.slice none 0 0, ?_, fun s hs => ?_, fun hn => ?_, HB.out.alloc HB.out.size _⟩
            · rw [HSN.out]; rfl
            · rw [HSN.out] at hs; cases hs
            · rfl
          · have d3 : ¬ (1000 : Int) < ((bytes r.typ).size : Int) := by omega
            by_cases h4 : r.id < 1
            · have HSN : Hid (sortO l [] = none) := by show _ = _; rw [HSO.out, HDS.out]; unfold sortO; rw [show r.ok = false from Bool.eq_false_iff.2 (fun h => by have := HOK.out.1 h; omega)]; rfl
              go_wp2
              go_ret2
              refine ⟨.slice none 0 0, ?_, fun s hs => ?_, fun hn => ?_, HB.out.alloc HB.out.size _⟩
              · rw [HSN.out]; rfl
              · rw [HSN.out] at hs; cases hs
              · rfl
            · by_cases h5 : 1099511627776 < r.id
              · have HSN : Hid (sortO l [] = none) := by show _ = _; rw [HSO.out, HDS.out]; unfold sortO; rw [show r.ok = false from Bool.eq_false_iff.2 (fun h => by have := HOK.out.1 h; omega)]; rfl
                go_wp2
                go_ret2
                refine ⟨.slice none 0 0, ?_, fun s hs => ?_, fun hn => ?_, HB.out.alloc HB.out.size _⟩
                · rw [HSN.out]; rfl
                · rw [HSN.out] at hs; cases hs
                · rfl
              · have hok : r.ok = true := HOK.out.2 ⟨h1, by omega, by omega, by omega, by omega⟩
                have HSO2 : Hid (sortO l [] = if o.any (fun x => x.name == r.name) then none else sortO (l.drop (i + 1)) (insR r o)) := by show _ = _; rw [HSO.out, HDS.out]; conv => lhs; unfold sortO; rw [hok, if_neg (by decide)]
                have HBl : Hid ((wr.alloc (.cells #[.string (bytes r.name), .string (bytes r.typ), .int .i64 r.id] 66)).heap[wr.heap.size]? = some (.cells #[.string (bytes r.name), .string (bytes r.typ), .int .i64 r.id] 66 (0, 0))) := heap_alloc_new _ _
                go_upto_block 2 with (fail)
                have HB1 := Lib.hid (HB.out.alloc HB.out.size (.cells #[.string (bytes r.name), .string (bytes r.typ), .int .i64 r.id] 66))
                have HRW1 := Lib.hid (HROW.out.below ((Below.refl _ _).alloc (Nat.le_refl _) (.cells #[.string (bytes r.name), .string (bytes r.typ), .int .i64 r.id] 66)))
                generalize wr.alloc (.cells #[.string (bytes r.name), .string (bytes r.typ), .int .i64 r.id] 66) = w1 at *
                generalize wr.heap.size = Br at *
                have HBr : Hid (Br < w1.heap.size) := lt_of_block HBl.out
                obtain ⟨a5, c5, e5, hco⟩ := HRW1.out.at_.cells
                cases e5
                have HCO := Lib.hid hco
                clear hco z0 z1 z2
                obtain ⟨gk0, hgk0⟩ : ∃ x, x = gk := ⟨_, rfl⟩
                go_wp2
                go_loopg [7] o.length (fun gk s7 w2 => RkLoop w1 o r gk s7 w2)
                case atStart => exact ⟨0, by omega, rfl, (fun j x hj => absurd hj (by omega)), Below.refl _ _⟩
                case round =>
                  obtain ⟨k, hk, rfl, hkl, hb2⟩ := hrel
                  have HK := Lib.hid hk
                  have HKL := Lib.hid hkl
                  have HB2 := Lib.hid hb2
                  have y0 : wr.cell? ⟨Br, 0, none⟩ = some (.string (bytes r.name)) := by unfold World.cell?; rw [hb2.block Br HBr.out, HBl.out]; rfl
                  have k0 : (0 : Int) ≤ (k : Int) := by omega
                  by_cases hk2 : k < o.length
                  · obtain ⟨x, hx⟩ : ∃ x, o[k]? = some x := ⟨_, List.getElem?_eq_getElem hk2⟩
                    obtain ⟨b4, off4, rfl, hbl4, x0, _, _⟩ := HCO.out k x hx
                    have q0 := (hb2.cell (p := ⟨b4, off4 + k * 3, none⟩) hbl4).trans x0
                    have k1 : (k : Int) < (o.length : Int) := by omega
                    clear x0 hb2 hkl
                    have HX := Lib.hid hx
                    have HK2 := Lib.hid hk2
                    by_cases hlx : ltN x.name r.name = true
                    · have e9 : Op.bytesLess (bytes x.name).toList (bytes r.name).toList = true := by rw [less_bytes]; exact hlx
                      have HLX := Lib.hid hlx
                      clear hlx hx hk2 hk
                      go_wp2
                      go_quiet (fail)
                      go_wp2
                      go_roundg (gk - 1)
                      case measure => have := HK.out; have := HK2.out; omega
                      case rel => exact ⟨k + 1, by have := HK.out; have := HK2.out; omega, by go_num, fun j y hj hy => by
                        by_cases hjk : j < k
                        · exact HKL.out j y hjk hy
                        · have : j = k := by omega
                          subst this
                          rw [HX.out] at hy
                          cases hy
                          exact HLX.out, below_drewN HB2.out _⟩
                    · have e9 : Op.bytesLess (bytes x.name).toList (bytes r.name).toList = false := by rw [less_bytes]; simpa using hlx
                      have HLX : Hid (∀ y, o[k]? = some y → ltN y.name r.name = false) := fun y hy => by rw [HX.out] at hy; cases hy; simpa using hlx
                      have HKO : Hid (k ≤ o.length) := Nat.le_of_lt hk2
                      have HANY := Lib.hid (Gr.any_at HRI.out HKO.out HKL.out HLX.out)
                      rw [hx] at HANY
                      have HIN := Lib.hid (Gr.insR_at r o k HKO.out HKL.out HLX.out)
                      have hbw : ∀ n, Below w1.heap.size w1 (wr.drewN n) := fun n => below_drewN HB2.out n
                      have HBW := Lib.hid hbw
                      clear hbw hlx hx hk2 hk
                      by_cases hdup : x.name = r.name
                      · have e7 : ((bytes x.name).toList == (bytes r.name).toList) = true := by rw [eq_bytes]; simpa using hdup
                        have HSN : Hid (sortO l [] = none) := by
                          show _ = _
                          rw [HSO2.out, HANY.out]
                          simp [hdup]
                        clear hdup
                        go_wp2
                        go_quiet (fail)
                        go_wp2
                        go_quiet (fail)
                        go_wp2
                        go_ret2
                        refine ⟨.slice none 0 0, ?_, fun s hs => ?_, fun hn => ?_, below_drewN (below_drewN (HB1.out.trans (HB2.out.mono HB1.out.size)) _) _⟩
                        · rw [HSN.out]; rfl
                        · rw [HSN.out] at hs; cases hs
                        · rfl
                      · have e7 : ((bytes x.name).toList == (bytes r.name).toList) = false := by rw [eq_bytes]; simpa using hdup
                        have hany : (o.any fun x => x.name == r.name) = false := by rw [HANY.out]; simpa using hdup
                        have HAN := Lib.hid hany
                        clear hdup hany
                        go_wp2
                        go_quiet (fail)
                        go_wp2
                        go_quiet (fail)
                        go_wp2
                        have HWB : Hid (∀ n m, Below w1.heap.size w1 ((wr.drewN n).drewN m)) := fun n m => below_drewN (below_drewN HB2.out n) m
                        have HKX : Hid (k ≤ o.length) := by have := HKO.out; show _ ≤ _; omega
                        have HW0 : Hid (Below w.heap.size w w1) := HB1.out
                        refine use_regG (c' := reg13) (by kernel_rfl) ?_
                        refine ref13 (N := w.heap.size) (k := k) (o := o) (r := r) (Br := Br) (fun _ _ _ _ e h => ⟨e.symm.trans (And.left h), And.right h⟩) ?_ ?_ ?_ HKX.out ?_ ?_
                        · exact HRW1.out.below ((HWB.out _ _).mono (Nat.le_refl _))
                        · exact Nat.le_trans HW0.out.size (HWB.out _ _).size
                        · exact ((HWB.out _ _).block Br HBr.out).trans HBl.out
                        · have := HOL.out; have := HI.out; omega
                        · intro _ _ _ _ _ _ _ _ _ _ _ _ v4' w4 hr4 hb4
                          have HR4 := Lib.hid hr4
                          have HB4 := Lib.hid hb4
                          clear hr4 hb4
                          go_wp2
                          go_roundg (gk0 - 1)
                          case measure => have := HI.out; have := HLT.out; omega
                          case rel =>
                            have HSZ4 : ∀ n m, w.heap.size ≤ ((wr.drewN n).drewN m).heap.size := fun n m => Nat.le_trans HW0.out.size (HWB.out n m).size
                            exact ⟨i + 1, insR r o, by have := HI.out; have := HLT.out; omega, by go_num, by rw [HIN.out]; exact HR4.out.mono (HSZ4 _ _), HSO2.out.trans (by rw [HAN.out]; rfl), Gr.insR_rise HRI.out (fun x hx e => by
                              have h := HAN.out
                              rw [List.any_eq_false] at h
                              exact h x hx (by simpa using e)), (Gr.insR_perm r o).length_eq.trans (by rw [List.length_cons, HOL.out]), (HW0.out.trans ((HWB.out _ _).mono HW0.out.size)).trans (HB4.out.mono (HSZ4 _ _))⟩
                  · have HKO : Hid (k = o.length) := by show _ = _; omega
                    have hno : o[k]? = none := List.getElem?_eq_none (by omega)
                    have HLX : Hid (∀ y, o[k]? = some y → ltN y.name r.name = false) := fun y hy => by rw [hno] at hy; cases hy
                    have HANY := Lib.hid (Gr.any_at HRI.out (Nat.le_of_eq HKO.out) HKL.out HLX.out)
                    rw [hno] at HANY
                    have HIN := Lib.hid (Gr.insR_at r o k (Nat.le_of_eq HKO.out) HKL.out HLX.out)
                    have HAN : Hid ((o.any fun x => x.name == r.name) = false) := HANY.out
                    have k1 : ¬ (k : Int) < (o.length : Int) := by omega
                    have k2 : decide ((k : Int) < (o.length : Int)) = false := decide_eq_false k1
                    clear hk hno hb2 hkl
                    go_wp2
                    go_quiet (fail)
                    go_wp2
                    go_quiet (fail)
                    go_wp2
                    have HWB : Hid (∀ n m, Below w1.heap.size w1 ((wr.drewN n).drewN m)) := fun n m => below_drewN (below_drewN HB2.out n) m
                    have HKX : Hid (k ≤ o.length) := by have := HKO.out; show _ ≤ _; omega
                    have HW0 : Hid (Below w.heap.size w w1) := HB1.out
                    refine use_regG (c' := reg13) (by kernel_rfl) ?_
                    refine ref13 (N := w.heap.size) (k := k) (o := o) (r := r) (Br := Br) (fun _ _ _ _ e h => ⟨e.symm.trans (And.left h), And.right h⟩) ?_ ?_ ?_ HKX.out ?_ ?_
                    · exact HRW1.out.below ((HWB.out _ _).mono (Nat.le_refl _))
                    · exact Nat.le_trans HW0.out.size (HWB.out _ _).size
                    · exact ((HWB.out _ _).block Br HBr.out).trans HBl.out
                    · have := HOL.out; have := HI.out; omega
                    · intro _ _ _ _ _ _ _ _ _ _ _ _ v4' w4 hr4 hb4
                      have HR4 := Lib.hid hr4
                      have HB4 := Lib.hid hb4
                      clear hr4 hb4
                      go_wp2
                      go_roundg (gk0 - 1)
                      case measure => have := HI.out; have := HLT.out; omega
                      case rel =>
                        have HSZ4 : ∀ n m, w.heap.size ≤ ((wr.drewN n).drewN m).heap.size := fun n m => Nat.le_trans HW0.out.size (HWB.out n m).size
                        exact ⟨i + 1, insR r o, by have := HI.out; have := HLT.out; omega, by go_num, by rw [HIN.out]; exact HR4.out.mono (HSZ4 _ _), HSO2.out.trans (by rw [HAN.out]; rfl), Gr.insR_rise HRI.out (fun x hx e => by
                          have h := HAN.out
                          rw [List.any_eq_false] at h
                          exact h x hx (by simpa using e)), (Gr.insR_perm r o).length_eq.trans (by rw [List.length_cons, HOL.out]), (HW0.out.trans ((HWB.out _ _).mono HW0.out.size)).trans (HB4.out.mono (HSZ4 _ _))⟩
    · have i1 : ¬ (i : Int) < (l.length : Int) := by omega
      have hz : i = l.length := by omega
      have HSZ : Hid (sortO l [] = some o) := by show _ = _; rw [hso, hz, List.drop_length]; rfl
      clear hz hi hso hri hrow hb hlt hol
      go_wp2
      go_ret2
      refine ⟨.slice a4 o.length c4, ?_, fun s hs => ?_, fun hn => ?_, HB.out⟩
      · rw [HSZ.out]; rfl
      · rw [HSZ.out] at hs; cases hs; exact HROW.out
      · rw [HSZ.out] at hn; cases hn
end Go.Proofs.YtenikoecnfbfoaaGreatDoor
