/- Texts of the proof, in build order: Backw, Move3, PRow, MvRef, GrSpec, GrNum, GrMeet. -/
import Derived.RangeFuncNested
import Derived.RangeFuncBound
import Derived.RangeFuncCalls
import Derived.RangeFuncLeaves
import Derived.RangeFuncBox
import Derived.Shelf.Abstract
import Derived.Shelf.RegionOpen
import Derived.OwnWalkIn
import Derived.TacticsInMore
import Derived.LoopNIn
import Derived.LoopIn
import Derived.Maps.OwnIn
import Derived.Test.YtenikoecnfbfoaaGreatDoorB22
import Derived.Deep.DeepCutAuto
import Derived.Test.YtenikoecnfbfoaaGreatDoorB01
import Derived.Test.YtenikoecnfbfoaaGreatDoorB13
import Derived.Test.YtenikoecnfbfoaaGreatDoorB12
import Derived.Test.YtenikoecnfbfoaaGreatDoorB09
import Derived.Test.YtenikoecnfbfoaaGreatDoorB05
/- A row of pairs, backward: the library's iterator. -/
namespace Go.Proofs.YtenikoecnfbfoaaGreatDoor
open Go.RowKit Go.Shelf Go.Maps
set_option linter.unusedVariables false
attribute [local go_sem] Oper.semAt_some

/-- Two numbers within their range. -/
abbrev PW := { x : Int × Int // (Lit.int .i64 x.1).wf = true ∧ (Lit.int .i64 x.2).wf = true }
/-- The slice value sv holds the pairs zs, in a block below n₀; or it is nil and there are none. -/
def PairsIs (n₀ : Nat) (W : World) (sv : Value) (zs : List PW) : Prop :=
  (sv = .slice none 0 0 ∧ zs = []) ∨ ∃ b off cap, sv = .slice (some ⟨b, off, none⟩) zs.length cap ∧ b < n₀ ∧ ∀ j x, zs[j]? = some x → W.cell? ⟨b, off + j * 2, none⟩ = some (.int .i64 x.1.1) ∧ W.cell? ⟨b, off + j * 2 + 1, none⟩ = some (.int .i64 x.1.2)
theorem PairsIs.below {n₀ : Nat} {A B : World} (h : Below n₀ A B) {sv : Value} {zs : List PW} : PairsIs n₀ A sv zs → PairsIs n₀ B sv zs
  | .inl e => .inl e
  | .inr ⟨b, off, cap, e, hb, hc⟩ => .inr ⟨b, off, cap, e, hb, fun j x hj => ⟨(h.cell (p := ⟨b, off + j * 2, none⟩) hb).trans (hc j x hj).1, (h.cell (p := ⟨b, off + j * 2 + 1, none⟩) hb).trans (hc j x hj).2⟩⟩
def encP (x : Nat × PW) : Array Value := #[.int .i64 (x.1 : Int), .agg #[.int .i64 x.2.1.1, .int .i64 x.2.1.2]]

/-- What a round keeps: what lay below n₀, and the box of the row. -/
def KpB (n₀ Bs : Nat) (A B : World) : Prop := Below n₀ A B ∧ B.heap[Bs]? = A.heap[Bs]?
theorem kpB_t {n₀ Bs : Nat} {A B C : World} (h : KpB n₀ Bs A B) (k : KpB n₀ Bs B C) : KpB n₀ Bs A C := ⟨h.1.trans k.1, k.2.trans h.2⟩
theorem kpB_b {n₀ Bs : Nat} {w : World} (hn : n₀ ≤ w.heap.size) (hB : Bs < w.heap.size) (W : World) (l : Nat) (o o' : Obj) (hl : w.heap.size ≤ l) (h : W.heap[l]? = some o) (h1 : o.isCells = false) (h2 : o.isWalk = false) : KpB n₀ Bs W (W.putObj l o') :=
  ⟨belowK_b hn W l o o' hl h h1 h2, (grownBy_putObj' W l o').block Bs (by have := (Array.getElem?_eq_some_iff.1 h).1; omega) (by simp; omega)⟩
set_option maxRecDepth 100000 in
set_option maxHeartbeats 2000000 in
theorem back1_in (F : Fence) (n : Nat) (h7 : F.fn 70) (hro : F.round = none) (hn : 1 ≤ n) (l Bs n₀ b off len cap : Nat) (zs : List PW) (hlen : zs.length = len) (hreach : len ≤ 1000000) (hb : b < n₀) (J Jx : List (Nat × PW) → World → Prop)
    (hY : ∀ pre x W, J pre W → pre.length < len → YieldAt F (n - 1) Tryz.prog l #[.int .i64 (x.1 : Int), .agg #[.int .i64 x.2.1.1, .int .i64 x.2.1.2]] W fun e W' =>
      (e = .returned (.bool true) ∧ J (pre ++ [x]) W' ∧ KpB n₀ Bs W W') ∨ (e = .returned (.bool false) ∧ Jx (pre ++ [x]) W'))
    (W : World) (hBs : W.cell? ⟨Bs, 0, none⟩ = some (.slice (some ⟨b, off, none⟩) len cap)) (hc : ∀ j x, zs[j]? = some x → W.cell? ⟨b, off + j * 2, none⟩ = some (.int .i64 x.1.1) ∧ W.cell? ⟨b, off + j * 2 + 1, none⟩ = some (.int .i64 x.1.2)) (h0 : J [] W) :
    CallsIn F n Tryz.prog 70 #[.func (.yield l) #[] #[], .pointer (some ⟨Bs, 0, none⟩)] W fun e W' => (∃ v, e = .returned v) ∧
      ((∃ ys : List (Nat × PW), ys.map (·.2) = zs.reverse ∧ J ys W') ∨ (∃ pre, True ∧ Jx pre W')) := by
  refine callsIn_of_wp Tryz.func70 rfl h7 ?_ hro
  simp only [Tryz.ntmps70, List.size_toArray, List.length_cons, List.length_nil, Nat.reduceAdd, Nat.reduceSub, Array.replicate_succ, Array.replicate_zero, List.push_toArray, List.append_toArray, List.nil_append, List.cons_append]
  have hw0 : IntKind.i64.wrap ((len : Int) - 1) = (len : Int) - 1 := by rw [IntKind.wrap_i64]; omega
  gi_wp2
  gi_loopw [3] (fun i wr => ∃ (m : Nat) (pre : List (Nat × PW)), i = .int .i64 ((m : Int) - 1) ∧ m ≤ len ∧ pre.length + m = len ∧ pre.map (·.2) = (zs.drop m).reverse ∧ J pre wr ∧ KpB n₀ Bs W wr)
    (fun i _ => (intOf i + 1).toNat)
  case atStart => exact ⟨len, [], rfl, Nat.le_refl _, by simp, by rw [List.drop_of_length_le (by omega)]; rfl, h0, Below.refl _ _, rfl⟩
  case round =>
    obtain ⟨m, pre, rfl, hm, hpl, hpre, hJs, hnx⟩ := hrel
    have hBs' : wr.cell? ⟨Bs, 0, none⟩ = some (.slice (some ⟨b, off, none⟩) len cap) := by
      rw [← hBs]
      unfold World.cell?
      rw [hnx.2]
    cases m with
    | zero =>
      gi_wp2
      go_end0
      exact ⟨⟨_, rfl⟩, .inl ⟨pre, by rw [hpre, List.drop_zero], hJs⟩⟩
    | succ m =>
      obtain ⟨x, hx⟩ : ∃ x, zs[m]? = some x := ⟨_, List.getElem?_eq_getElem (by omega)⟩
      obtain ⟨fn, tmps, assign, body, hy, hR⟩ := hY pre (m, x) wr hJs (by omega)
      dsimp only at hy
      obtain ⟨c0, c1⟩ := hc m x hx
      replace c0 := (hnx.1.cell (p := ⟨b, off + m * 2, none⟩) hb).trans c0
      replace c1 := (hnx.1.cell (p := ⟨b, off + m * 2 + 1, none⟩) hb).trans c1
      have e1 : (((m + 1 : Nat) : Int) - 1) = (m : Int) := by omega
      rw [e1]
      have i0 : (0 : Int) ≤ (m : Int) := by omega
      have i1 : (m : Int) < (len : Int) := by omega
      have i2 : IntKind.i64.wrap ((m : Int) - 1) = (m : Int) - 1 := by rw [IntKind.wrap_i64]; omega
      have hdr : (zs.drop m).reverse = (zs.drop (m + 1)).reverse ++ [x] := by
        have : zs.drop m = x :: zs.drop (m + 1) := by
          rw [List.drop_eq_getElem_cons (by omega)]; congr 1; exact Option.some.inj ((List.getElem?_eq_getElem (by omega)).symm.trans hx)
        rw [this, List.reverse_cons]
      have HDR := Lib.hid hdr
      have HPRE := Lib.hid hpre
      have HX := Lib.hid hx
      clear hdr hpre hx
      gi_wp2
      refine hR.mono ?_
      rintro e W3 (⟨rfl, hJ3, hk3⟩ | ⟨rfl, hJx3⟩)
      · gi_wp2
        go_roundw
        case rel => exact ⟨m, pre ++ [(m, x)], by go_num, by omega, by rw [List.length_append, List.length_singleton]; omega, by rw [List.map_append, HPRE.out, HDR.out]; rfl, hJ3, kpB_t hnx hk3⟩
        case measure => simp [intOf]
      · gi_wp2
        refine bodyPost_ret (results_none rfl _ _ _) rfl ?_
        exact ⟨⟨_, rfl⟩, .inr ⟨_, trivial, hJx3⟩⟩
set_option maxRecDepth 100000 in
set_option maxHeartbeats 1000000 in
theorem back1_nil_in (F : Fence) (n : Nat) (h7 : F.fn 70) (hro : F.round = none) (l Bs : Nat) (J : List (Nat × PW) → World → Prop) (W : World) (hBs : W.cell? ⟨Bs, 0, none⟩ = some (.slice none 0 0)) (h0 : J [] W) :
    CallsIn F n Tryz.prog 70 #[.func (.yield l) #[] #[], .pointer (some ⟨Bs, 0, none⟩)] W fun e W' => (∃ v, e = .returned v) ∧ J [] W' := by
  refine callsIn_of_wp Tryz.func70 rfl h7 ?_ hro
  simp only [Tryz.ntmps70, List.size_toArray, List.length_cons, List.length_nil, Nat.reduceAdd, Nat.reduceSub, Array.replicate_succ, Array.replicate_zero, List.push_toArray, List.append_toArray, List.nil_append, List.cons_append]
  gi_wp2
  gi_loopw [3] (fun i wr => i = .int .i64 (-1) ∧ J [] wr) (fun _ _ => 0)
  case atStart => exact ⟨rfl, h0⟩
  case round =>
    obtain ⟨rfl, hJs⟩ := hrel
    gi_wp2
    go_end0
    exact ⟨⟨_, rfl⟩, hJs⟩
set_option maxRecDepth 100000 in
set_option maxHeartbeats 1000000 in
theorem backward_in (F : Fence) (n : Nat) (h5 : F.fn 50) (hro : F.round = none) (a : Option Addr) (len cap : Nat) (w : World) :
    CallsIn F n Tryz.prog 50 #[.slice a len cap] w fun e w' => e = .returned (.func (.func 70) #[] #[.pointer (some ⟨w.heap.size, 0, none⟩)]) ∧ w' = w.alloc (.cells #[.slice a len cap] 73) := by
  refine callsIn_of_wp Tryz.func50 rfl h5 ?_ hro
  simp only [Tryz.ntmps50, List.size_toArray, List.length_cons, List.length_nil, Nat.reduceAdd, Nat.reduceSub, Array.replicate_succ, Array.replicate_zero, List.push_toArray, List.append_toArray, List.nil_append, List.cons_append]
  gi_wp2
  go_ret
  exact ⟨rfl, rfl⟩
end Go.Proofs.YtenikoecnfbfoaaGreatDoor
/- The program's Move: its map out of a row of pairs, from the last to the first. -/
namespace Go.Proofs.YtenikoecnfbfoaaGreatDoor
open Go.RowKit Go.Shelf Go.Maps Wr
set_option linter.unusedVariables false
attribute [local go_sem] Oper.semAt_some

theorem back_stops (F : Fence) (n : Nat) (h7 : F.fn 70) (hro : F.round = none) (hn : 1 ≤ n) (Bs n₀ : Nat) (sv : Value) (zs : List PW) (hreach : zs.length ≤ 1000000) (w : World) (hBs : Bs < w.heap.size) (hn₀ : n₀ ≤ w.heap.size)
    (hc : w.cell? ⟨Bs, 0, none⟩ = some sv) (hI : PairsIs n₀ w sv zs) :
    SeqStopsK F n Tryz.prog 70 #[.pointer (some ⟨Bs, 0, none⟩)] encP (KpB n₀ Bs) (fun ys => ys.map (·.2) = zs.reverse) (fun _ => True) zs.length w := fun l J Jx W hW _ _ hY h0 => by
  have hc' := (hW.cell (p := ⟨Bs, 0, none⟩) hBs).trans hc
  rcases hI.below (hW.mono hn₀) with ⟨rfl, rfl⟩ | ⟨b, off, cap, rfl, hb, hcs⟩
  · exact (back1_nil_in F n h7 hro l Bs J W hc' h0).mono fun e W' ⟨he, hj⟩ => ⟨he, .inl ⟨_, rfl, hj⟩⟩
  · exact back1_in F n h7 hro hn l Bs n₀ b off zs.length cap zs rfl hreach hb J Jx hY W hc' hcs h0

def upd (f : Int → Option Int) (x : PW) : Int → Option Int := fun j => if j = x.1.1 then some x.1.2 else f j
def asg (ps : List PW) : Int → Option Int := ps.foldl upd (fun _ => none)
theorem asg_snoc (ps : List PW) (x : PW) : asg (ps ++ [x]) = upd (asg ps) x := by simp [asg]
theorem asg_wf : ∀ (ps : List PW) (f : Int → Option Int), (∀ a c, f a = some c → (Lit.int .i64 c).wf = true) → ∀ a c, ps.foldl upd f a = some c → (Lit.int .i64 c).wf = true
  | [], f, h, a, c, e => h a c e
  | x :: ps, f, h, a, c, e => by
    refine asg_wf ps (upd f x) (fun a c e => ?_) a c e
    unfold upd at e
    split at e
    · cases e; exact x.2.2
    · exact h a c e
/-- The first pair of that number. -/
def firstOf (zs : List PW) : Int → Option Int := asg zs.reverse

def MvI (w : World) (V : Array Value) (sv : Value) (pre : List (Nat × PW)) (W : World) : Prop :=
  W.heap[w.heap.size]? = some (.cells V 47 (0, 0)) ∧ W.heap[w.heap.size + 1]? = some Z4 ∧ W.heap[w.heap.size + 1 + 1 + 1]? = some (.cells #[.map (some (w.heap.size + 1 + 1))] 71 (0, 0)) ∧ W.heap[w.heap.size + 1 + 1 + 1 + 1]? = some (.cells #[sv] 73 (0, 0)) ∧
    IMap Tryz.prog 3 3 W (w.heap.size + 1 + 1) pre.length (asg (pre.map (·.2))) ∧ Below w.heap.size w W

theorem mv_start (w : World) (V : Array Value) (sv : Value) : MvI w V sv [] (((((w.alloc (.cells V 47 (0, 0))).alloc Z4).alloc (.map #[] 0)).alloc (.cells #[.map (some (w.heap.size + 1 + 1))] 71 (0, 0))).alloc (.cells #[sv] 73 (0, 0))) := by
  have hm := IMap.made (P := Tryz.prog) (K := 3) (E := 3) ((w.alloc (.cells V 47 (0, 0))).alloc Z4)
  obtain ⟨w2, hw2⟩ : ∃ w2, w2 = (w.alloc (.cells V 47 (0, 0))).alloc Z4 := ⟨_, rfl⟩
  have z1 : w2.heap[w.heap.size]? = some (.cells V 47 (0, 0)) := by rw [hw2]; exact (Below.heap_alloc _ _ _ (by simp)).trans (World.alloc_heap_new _ _)
  have z2 : w2.heap[w.heap.size + 1]? = some Z4 := by
    rw [hw2]
    have := World.alloc_heap_new (w.alloc (.cells V 47 (0, 0))) Z4
    simpa using this
  have s2 : w2.heap.size = w.heap.size + 1 + 1 := by rw [hw2]; simp
  have b2 : Below w.heap.size w w2 := by rw [hw2]; exact ((Below.refl _ _).alloc (Nat.le_refl _) _).alloc (by simp) _
  rw [← hw2] at hm ⊢
  rw [s2] at hm
  obtain ⟨w3, hw3⟩ : ∃ w3, w3 = w2.alloc (.map #[] 0) := ⟨_, rfl⟩
  rw [← hw3] at hm ⊢
  have s3 : w3.heap.size = w.heap.size + 1 + 1 + 1 := by rw [hw3]; simp [s2]
  have b3 : Below w2.heap.size w2 w3 := by rw [hw3]; exact (Below.refl _ _).alloc (Nat.le_refl _) _
  obtain ⟨w4, hw4⟩ : ∃ w4, w4 = w3.alloc (.cells #[.map (some (w.heap.size + 1 + 1))] 71 (0, 0)) := ⟨_, rfl⟩
  rw [← hw4]
  have s4 : w4.heap.size = w.heap.size + 1 + 1 + 1 + 1 := by rw [hw4]; simp [s3]
  have b4 : Below w3.heap.size w3 w4 := by rw [hw4]; exact (Below.refl _ _).alloc (Nat.le_refl _) _
  have z4 : w4.heap[w.heap.size + 1 + 1 + 1]? = some (.cells #[.map (some (w.heap.size + 1 + 1))] 71 (0, 0)) := by rw [hw4, ← s3]; exact World.alloc_heap_new _ _
  have b5 : Below w4.heap.size w4 (w4.alloc (.cells #[sv] 73 (0, 0))) := (Below.refl _ _).alloc (Nat.le_refl _) _
  have z5 : (w4.alloc (.cells #[sv] 73 (0, 0))).heap[w.heap.size + 1 + 1 + 1 + 1]? = some (.cells #[sv] 73 (0, 0)) := by rw [← s4]; exact World.alloc_heap_new _ _
  have b25 : Below w2.heap.size w2 (w4.alloc (.cells #[sv] 73 (0, 0))) := (b3.trans (b4.mono b3.size)).trans (b5.mono (Nat.le_trans b3.size b4.size))
  have b35 : Below w3.heap.size w3 (w4.alloc (.cells #[sv] 73 (0, 0))) := b4.trans (b5.mono b4.size)
  exact ⟨(b25.block _ (lt_of_block z1)).trans z1, (b25.block _ (lt_of_block z2)).trans z2, (b5.block _ (lt_of_block z4)).trans z4, z5, hm.chg (below_chg b35) (by simp), b2.trans (b25.mono b2.size)⟩
theorem mv_chg {w W W' : World} {V : Array Value} {sv : Value} {pre : List (Nat × PW)} {F : List Nat} (h : MvI w V sv pre W) (hc : Chg F W W') (hF : ∀ k ∈ F, w.heap.size + 1 + 1 + 1 + 1 < k) : MvI w V sv pre W' := by
  obtain ⟨h1, h2, h3, h4, h5, h6⟩ := h
  exact ⟨(hc.block _ (lt_of_block h1) (fun hm => by have := hF _ hm; omega)).trans h1, (hc.block _ (lt_of_block h2) (fun hm => by have := hF _ hm; omega)).trans h2, (hc.block _ (lt_of_block h3) (fun hm => by have := hF _ hm; omega)).trans h3, (hc.block _ (lt_of_block h4) (fun hm => by have := hF _ hm; omega)).trans h4, h5.chg hc (fun hm => by have := hF _ hm; omega), h6.trans (hc.below h6.size (fun k hk => by have := hF k hk; omega))⟩
theorem mv_round {w W W' : World} {V : Array Value} {sv : Value} {pre : List (Nat × PW)} {x : Nat × PW} (h : MvI w V sv pre W) (hc : Chg [w.heap.size + 1 + 1] W W') (hm : IMap Tryz.prog 3 3 W' (w.heap.size + 1 + 1) (pre.length + 1) (upd (asg (pre.map (·.2))) x.2)) : MvI w V sv (pre ++ [x]) W' := by
  obtain ⟨h1, h2, h3, h4, h5, h6⟩ := h
  refine ⟨(hc.block _ (lt_of_block h1) (by simp only [List.mem_singleton]; omega)).trans h1, (hc.block _ (lt_of_block h2) (by simp only [List.mem_singleton]; omega)).trans h2, (hc.block _ (lt_of_block h3) (by simp only [List.mem_singleton]; omega)).trans h3, (hc.block _ (lt_of_block h4) (by simp only [List.mem_singleton]; omega)).trans h4, ?_, h6.trans (hc.below h6.size (by intro k hk; simp at hk; omega))⟩
  rw [List.length_append, List.length_singleton, List.map_append, List.map_cons, List.map_nil, asg_snoc]
  exact hm
theorem mv_own {w W0 A B : World} {V : Array Value} {sv : Value} {pre : List (Nat × PW)} {row : Option Nat} (h0 : W0.heap.size = w.heap.size + 1 + 1 + 1 + 1 + 1) (h : MvI w V sv pre A) (hg : A.grownBy B row) (hr : ∀ r, row = some r → W0.heap.size ≤ r) : MvI w V sv pre B :=
  mv_chg h ((Chg.refl row.toList A).grown hg (fun k hk => .inl (by simp [hk]))) (fun k hk => by have := hr k (by simpa using hk); omega)
set_option maxRecDepth 100000 in
set_option maxHeartbeats 2000000 in
theorem move_any (t : VT) (v : Value) (w : World) (P : Nat → Prop) (sv : Value) (zs : List PW) (hsz : t.sz ≤ 100000) (ht : ValIs w P t v) (hP : ∀ b, P b → b < w.heap.size) (hz : zs.length ≤ 1000000) (hps : PairsIs w.heap.size w sv zs) (hsv : ∃ ao n c, sv = .slice ao n c) :
    Calls Tryz.prog 29 #[v, sv] w (MoveEnd w P (t.move (firstOf zs))) := by
  have HT := Lib.hid ht
  have HP := Lib.hid hP
  have HPS := Lib.hid hps
  have HZ := Lib.hid hz
  obtain ⟨ka, na, sa, la⟩ := t
  have ht0 := ht
  unfold ValIs at ht
  obtain ⟨ao, cap, rfl, _⟩ := ht
  obtain ⟨aos, ns, cs, rfl⟩ := hsv
  clear ht0 hps hP hz
  have hmm := @run_makeMap Tryz.prog
  refine (callsIn_wide (n := 6)).1 ?_
  refine callsIn_of_wp_marks Tryz.func29 rfl trivial ?_ rfl
  simp only [Tryz.ntmps29, List.size_toArray, List.length_cons, List.length_nil, Nat.reduceAdd, Nat.reduceSub, Array.replicate_succ, Array.replicate_zero, List.push_toArray, List.append_toArray, List.nil_append, List.cons_append]
  gi_wp2_with (refine ⟨trivial, ?_⟩; gi_at_call 50; refine (backward_in Fence.wide _ trivial rfl _ _ _ _).mono ?_; rintro e w' ⟨rfl, rfl⟩)
  have h0 : MvI w #[.int .i64 ka, .int .i64 na, .string sa, .slice ao la.length cap] (.slice aos ns cs) [] (((((w.alloc (.cells #[.int .i64 ka, .int .i64 na, .string sa, .slice ao la.length cap] 47 (0, 0))).alloc Z4).alloc (.map #[] 0)).alloc (.cells #[.map (some (w.heap.size + 1 + 1))] 71 (0, 0))).alloc (.cells #[.slice aos ns cs] 73 (0, 0))) := mv_start w #[.int .i64 ka, .int .i64 na, .string sa, .slice ao la.length cap] (.slice aos ns cs)
  have hsz0 : (((((w.alloc (.cells #[.int .i64 ka, .int .i64 na, .string sa, .slice ao la.length cap] 47 (0, 0))).alloc Z4).alloc (.map #[] 0)).alloc (.cells #[.map (some (w.heap.size + 1 + 1))] 71 (0, 0))).alloc (.cells #[.slice aos ns cs] 73 (0, 0))).heap.size = w.heap.size + 1 + 1 + 1 + 1 + 1 := by simp
  obtain ⟨W0, hW0⟩ : ∃ W0, W0 = (((((w.alloc (.cells #[.int .i64 ka, .int .i64 na, .string sa, .slice ao la.length cap] 47 (0, 0))).alloc Z4).alloc (.map #[] 0)).alloc (.cells #[.map (some (w.heap.size + 1 + 1))] 71 (0, 0))).alloc (.cells #[.slice aos ns cs] 73 (0, 0))) := ⟨_, rfl⟩
  rw [← hW0] at h0 hsz0 ⊢
  clear hW0
  have H0 := Lib.hid h0
  refine wpIn_rangeFunc_ownH rfl (by omega) (gf := 70) (lb := #[.pointer (some ⟨w.heap.size + 1 + 1 + 1 + 1, 0, none⟩)]) rfl trivial (enters_of Tryz.func70 (by kernel_rfl) rfl)
    (back_stops Fence.wide _ trivial rfl (by omega) (w.heap.size + 1 + 1 + 1 + 1) w.heap.size (.slice aos ns cs) zs HZ.out W0 (by omega) (by omega) (by simp [World.cell?, h0.2.2.2.1]) (HPS.out.below h0.2.2.2.2.2)) kpB_t (kpB_b (by omega) (by omega)) (Below.refl _ _) (fun _ => rfl)
    (fun pre W => MvI w #[.int .i64 ka, .int .i64 na, .string sa, .slice ao la.length cap] (.slice aos ns cs) pre W)
    (fun _ _ _ => False)
    (fun pre A B row hs hg hr => mv_own hsz0 hs hg (fun r e => (hr r e).1))
    (fun _ _ _ _ _ hs _ _ => hs)
    h0
    (fun x a' W => ∃ Bx, W0.heap.size ≤ Bx ∧ W.heap[Bx]? = some (.cells #[.int .i64 x.2.1.1, .int .i64 x.2.1.2] 110 (0, 0)) ∧ a' = { tmps := #[.agg #[.int .i64 ka, .int .i64 na, .string sa, .slice ao la.length cap], .slice aos ns cs, .pointer (some ⟨w.heap.size, 0, none⟩), undef, .pointer (some ⟨w.heap.size + 1, 0, none⟩), .bool false, .pointer (some ⟨w.heap.size + 1 + 1 + 1, 0, none⟩), undef, .pointer (some ⟨Bx, 0, none⟩), .map (some (w.heap.size + 1 + 1)), .slice aos ns cs, .func (.func 70) #[] #[.pointer (some ⟨w.heap.size + 1 + 1 + 1 + 1, 0, none⟩)], .int .i64 (x.1 : Int), .agg #[.int .i64 x.2.1.1, .int .i64 x.2.1.2], undef, undef, undef, undef, undef, undef, undef, undef, undef, undef], defers := [] })
    (fun x a' _ X Y row hs hg hr => by obtain ⟨Bx, h1, h2, h3⟩ := hs; exact ⟨Bx, h1, (hg.block Bx (lt_of_block h2) (fun e => by obtain ⟨_, o, ho, hc⟩ := hr _ e.symm; rw [h2] at ho; cases ho; cases hc)).trans h2, h3⟩)
    ?assign ?body ?done ?stop
  case assign =>
    rintro l pre x W K hI hK
    dsimp only [encP]
    have hW : W0.heap.size ≤ W.heap.size := by have := lt_of_block hI.2.2.2.1; omega
    gi_wp2
    exact hK _ _ ((KeepsOthers.alloc _ _).from _) ⟨(Below.refl _ W).alloc (by omega) _, Below.heap_alloc _ _ _ (by omega)⟩ (mv_chg hI ((Chg.refl [] W).alloc _) (by simp)) ⟨W.heap.size, hW, World.alloc_heap_new _ _, rfl⟩
  case body =>
    rintro l pre x a' W hl ⟨r, hr⟩ hI ⟨Bx, hBx, bX, rfl⟩ hlt
    have HI := Lib.hid hI
    obtain ⟨i1, i2, i3, i4, i5, i6⟩ := hI
    have cm : W.cell? ⟨w.heap.size + 1 + 1 + 1, 0, none⟩ = some (.map (some (w.heap.size + 1 + 1))) := by simp [World.cell?, i3]
    have cx : W.cell? ⟨Bx, 0, none⟩ = some (.int .i64 x.2.1.1) := by simp [World.cell?, bX]
    have cy : W.cell? ⟨Bx, 1, none⟩ = some (.int .i64 x.2.1.2) := by simp [World.cell?, bX]
    obtain ⟨D, hown, hf⟩ := i5
    have HFD := Lib.hid hf
    have hmx : pre.length < maxLen := by have := HZ.out; unfold maxLen; omega
    have HOWN := Lib.hid hown
    clear i1 i2 i3 i4 i6 hf hown bX
    gi_wp2_with (gi_at_mapUpdate; refine wpListIn_mapUpdate_own _ rfl _ _ _ 71 rfl 3 3 (Maps.int_keyed Tryz.underlying3) Tryz.underlying71 _ (w.heap.size + 1 + 1) pre.length D rfl HOWN.out hmx _ _ _ rfl rfl (Maps.keyOf_int_mk Tryz.underlying3 x.2.2.1) _ [] (plainElem_int Tryz.underlying3 x.2.2.2) ?_; intro w1 hown1 hgrow1)
    have hc : Chg [w.heap.size + 1 + 1] W w1 := (Chg.refl _ W).grown hgrow1 (fun k hk => by cases hk; exact .inl (by simp))
    have hb : Below w.heap.size W w1 := hc.below HI.out.2.2.2.2.2.size (by intro k hk; simp at hk; omega)
    refine ⟨KeepsFrom.of_grownBy hgrow1 (fun j e => by cases e; omega), ⟨hb, hc.block _ (lt_of_block HI.out.2.2.2.1) (by simp only [List.mem_singleton]; omega)⟩, ?_⟩
    refine mv_round HI.out hc ⟨_, hown1, fun j => ?_⟩
    rw [mapAt_put (IMap.isMap HOWN.out) ((int_keyed Tryz.underlying3).key (keyOf_int_mk Tryz.underlying3 x.2.2.1)), HFD.out j]
    rfl
  case done =>
    rintro D ys W hD hys hI hK
    have HI := Lib.hid hI
    obtain ⟨i1, i2, i3, i4, i5, i6⟩ := hI
    obtain ⟨v0, v1, v2, v3, v4⟩ := hdr4_cells i1
    obtain ⟨r0, r1, r2, r3, r4⟩ := hdr4_cells i2
    have cm : W.cell? ⟨w.heap.size + 1 + 1 + 1, 0, none⟩ = some (.map (some (w.heap.size + 1 + 1))) := by simp [World.cell?, i3]
    have HKD := Lib.hid hK
    have HD := Lib.hid hD
    have hmv := move_walk (firstOf zs) (w.heap.size + 1 + 1) ys.length (VT.node ka na sa la).sz (VT.node ka na sa la) _ W P (Nat.le_refl _) hsz (HT.out.below i6 HP.out) (fun b hb => Nat.lt_of_lt_of_le (HP.out b hb) i6.size) (by rw [hys] at i5; exact i5) (asg_wf _ _ (fun a c e => by cases e))
    have HM := Lib.hid hmv
    clear hmv i1 i2 i3 i4 i5 i6 hK hD hys
    obtain ⟨r, hr⟩ : ∃ r, VT.move (firstOf zs) (VT.node ka na sa la) = r := ⟨_, rfl⟩
    rw [hr] at HM ⊢
    obtain ⟨u, hu⟩ : ∃ u, r.getD zeroT = u := ⟨_, rfl⟩
    have HU := Lib.hid hu
    have HR := Lib.hid hr
    clear hr hu
    gi_wp2_with (refine ⟨trivial, ?_⟩; gi_at_call 51; refine (callsIn_wide.2 HM.out).mono ?_; rintro e w5 ⟨v5, rfl, hv5, hb5⟩; rw [HU.out] at hv5; obtain ⟨ao5, cap5, rfl⟩ := hv5.form; have z5 := (hb5.block (w.heap.size + 1) (lt_of_block HI.out.2.1)).trans HI.out.2.1; obtain ⟨r0, r1, r2, r3, r4⟩ := hdr4_cells z5; have Z5 := Lib.hid z5; have V5 := Lib.hid hv5; have B5 := Lib.hid hb5; clear hv5 hb5 z5; unfold vval)
    obtain ⟨z1, z2⟩ := four_ret (y0 := .int .i64 u.kind) (y1 := .int .i64 u.num) (y2 := .string u.text) (y3 := .slice ao5 u.kids.length cap5) Z5.out
    generalize ((((World.setCell _ _ _).setCell _ _).setCell _ _).setCell _ _) = wz at z1 z2 ⊢
    have hkd : wz.heap[D]? = some (.deferred (some [])) := (z2.block D (Nat.lt_of_lt_of_le ((Array.getElem?_eq_some_iff.1 HKD.out).1) B5.out.size) (by have := HD.out; simp; omega)).trans ((B5.out.block D (Array.getElem?_eq_some_iff.1 HKD.out).1).trans HKD.out)
    have hcd : Chg [D] wz (wz.putObj D (.deferred none)) := (Chg.refl _ wz).grown (grownBy_putObj' wz D _) (fun k hk => by cases hk; exact .inl (by simp))
    have zd := (hcd.block _ (lt_of_block z1) (by have := HD.out; simp; omega)).trans z1
    refine ⟨by simp, .inl ⟨_, _, rfl, run_takeDeferred hkd, ?_⟩⟩
    obtain ⟨y0, y1, y2, y3, _⟩ := hdr4_cells zd
    refine ⟨.tuple #[vval u ao5 cap5, .bool r.isSome], by simp [results, Tryz.results29, go_sem, y0, y1, y2, y3, vval], ?_⟩
    rw [HR.out]
    have hDW := (Array.getElem?_eq_some_iff.1 HKD.out).1
    have hDl := HD.out
    have hs5 := B5.out.size
    have hq : ∀ b, (P b ∨ W.heap.size ≤ b) → b ≠ w.heap.size + 1 ∧ b ≠ D := fun b hb => by
      rcases hb with h | h
      · have := HP.out b h; omega
      · have := HI.out.2.2.2.2.2.size; have := lt_of_block HI.out.2.1; omega
    refine ⟨_, rfl, ?_, ?_⟩
    · rw [HU.out]
      refine ((V5.out.chg z2 (fun b hb => ⟨hb.2, by simp; exact (hq b hb.1).1⟩)).chg hcd (fun b hb => ⟨Nat.lt_of_lt_of_le hb.2 z2.size, by simp; exact (hq b hb.1).2⟩)).mono (fun b hb => ⟨hb.1.imp id (fun h => Nat.le_trans HI.out.2.2.2.2.2.size h), Nat.lt_of_lt_of_le hb.2 (Nat.le_trans z2.size hcd.size)⟩)
    · have hbw := HI.out.2.2.2.2.2
      refine ((hbw.trans (B5.out.mono hbw.size)).trans (z2.below (Nat.le_trans hbw.size hs5) (by simp))).trans (hcd.below (Nat.le_trans (Nat.le_trans hbw.size hs5) z2.size) (by intro k hk; simp at hk; omega))
  case stop =>
    rintro D c pre W _ _ h _
    exact h.elim
end Go.Proofs.YtenikoecnfbfoaaGreatDoor
/- Rows of pairs that grow; numbers that are moved by a distance. -/
namespace Go.Proofs.YtenikoecnfbfoaaGreatDoor
open Go.RowKit Go.Maps Wr
set_option linter.unusedVariables false

set_option maxRecDepth 100000 in
theorem infoP : (Tryz.prog.info? 110).map (fun i => (i.zero, i.size, i.bytes)) = some (some (.agg #[.int .i64 0, .int .i64 0]), 2, 16) := by kernel_rfl
def pcells : List PW → List Value
  | [] => []
  | x :: l => .int .i64 x.1.1 :: .int .i64 x.1.2 :: pcells l
theorem pcells_length : ∀ l : List PW, (pcells l).length = l.length * 2
  | [] => rfl
  | x :: l => by rw [pcells, List.length_cons, List.length_cons, pcells_length l, List.length_cons]; omega
theorem pcells_get : ∀ {l : List PW} {j : Nat} {x : PW}, l[j]? = some x → (pcells l)[j * 2]? = some (.int .i64 x.1.1) ∧ (pcells l)[j * 2 + 1]? = some (.int .i64 x.1.2)
  | [], _, _, h => by cases h
  | y :: l, 0, x, h => by rw [List.getElem?_cons_zero] at h; cases h; exact ⟨rfl, rfl⟩
  | y :: l, j + 1, x, h => by
    rw [List.getElem?_cons_succ] at h
    obtain ⟨h1, h2⟩ := pcells_get h
    rw [pcells, show (j + 1) * 2 = j * 2 + 1 + 1 by omega, List.getElem?_cons_succ, List.getElem?_cons_succ, show j * 2 + 1 + 1 + 1 = j * 2 + 1 + 1 + 1 from rfl, List.getElem?_cons_succ, List.getElem?_cons_succ]
    exact ⟨h1, h2⟩
theorem pcells_snoc : ∀ (l : List PW) (x : PW), pcells (l ++ [x]) = pcells l ++ [.int .i64 x.1.1, .int .i64 x.1.2]
  | [], x => rfl
  | y :: l, x => by rw [List.cons_append, pcells, pcells, pcells_snoc l x]; rfl
/-- A row of pairs of its own, in blocks from N on. -/
def PRow (w : World) (N : Nat) (v : Value) (zs : List PW) : Prop := RowZ w 110 2 v zs.length (pcells zs) ∧ ∀ k, v.ownBlock = some k → N ≤ k
theorem PRow.nil (w : World) (N : Nat) : PRow w N (.slice none 0 0) [] := ⟨RowZ.nil _ _ _, fun k h => by simp [Value.ownBlock] at h⟩
theorem PRow.chg {F : List Nat} {w w' : World} {N : Nat} {v : Value} {zs : List PW} (h : PRow w N v zs) (hc : Chg F w w') (hF : ∀ k, v.ownBlock = some k → k ∉ F) : PRow w' N v zs := ⟨h.1.chg hc hF, h.2⟩
theorem PRow.form {w : World} {N : Nat} {v : Value} {zs : List PW} (h : PRow w N v zs) : ∃ ao cap, v = .slice ao zs.length cap := by
  obtain ⟨ao, cap, e, _⟩ := h.1.form
  exact ⟨ao, cap, e⟩
theorem PRow.is {w : World} {N : Nat} {v : Value} {zs : List PW} (h : PRow w N v zs) : PairsIs w.heap.size w v zs := by
  rcases h.1.2 with ⟨rfl, hn⟩ | ⟨g, cap, cur, rfl, _, hg, _⟩
  · exact .inl ⟨rfl, List.length_eq_zero_iff.1 hn⟩
  · refine .inr ⟨g, 0, cap, rfl, (Array.getElem?_eq_some_iff.1 hg).1, fun j x hj => ?_⟩
    have hl := (List.getElem?_eq_some_iff.1 hj).1
    have hlen := pcells_length zs
    obtain ⟨e1, e2⟩ := pcells_get hj
    refine ⟨?_, ?_⟩
    · rw [Nat.zero_add, h.1.cellAt _ (by rw [hlen]; omega)]; exact e1
    · rw [Nat.zero_add, h.1.cellAt _ (by rw [hlen]; omega)]; exact e2
theorem cell_two_new (w : World) (a b : Value) (t : TypeId) : ∀ (j : Nat) (u : Value), [a, b][j]? = some u → (w.alloc (.cells #[a, b] t)).cell? (Addr.add ⟨w.heap.size, 0, none⟩ j) = some u := by
  intro j u hj
  have hb := heap_alloc_new w (.cells #[a, b] t)
  rw [show (Addr.add ⟨w.heap.size, 0, none⟩ j) = ⟨w.heap.size, j, none⟩ by unfold Addr.add; split <;> simp_all]
  have hj2 := (List.getElem?_eq_some_iff.1 hj).1
  simp at hj2
  have : j = 0 ∨ j = 1 := by omega
  rcases this with rfl | rfl
  · simp at hj; subst hj; unfold World.cell?; rw [hb]; rfl
  · simp at hj; subst hj; unfold World.cell?; rw [hb]; rfl
/-- 'append(l, p)' of one pair, at a step of a region that draws its order. -/
theorem step_appp {w : World} {ops : Array Oper} {o : Oper} {a : Act} {K : Act → World → Prop} {Q : Exit → Act → World → Prop} {E : Prop} (hgd : o.guard = none) (s x : Operand)
    (ho : o.op = .call { callee := .builtin .append, args := #[s, x], argTypes := #[73, 73] }) {N : Nat} {v : Value} {zs : List PW} {y : PW} (hs : a.eval s = v) (hr : PRow w N v zs) {ad : Addr} {c : Nat} (hx : a.eval x = .slice (some ad) 1 c)
    (hnews : ∀ j u, [Value.int .i64 y.1.1, .int .i64 y.1.2][j]? = some u → w.cell? (ad.add j) = some u) (hN : N ≤ w.heap.size) (h63 : zs.length ≤ 1000000)
    (h : ∀ v' w', PRow w' N v' (zs ++ [y]) → OwnStep w v w' v' → K (a.put o.dst v') w') : if Region.wanted o (yielded ops a.tmps) = true then Oper.wp Tryz.prog o a w K Q else E := by
  obtain ⟨i0, hi, hz0, hz1, hz2⟩ := info_parts infoP
  have hl := pcells_length zs
  have hown : w.ownsRow N 110 2 v zs.length (pcells zs) := by
    refine ⟨hr.1.1, ?_⟩
    rcases hr.1.2 with hn | ⟨g, cap, cur, rfl, _, rest⟩
    · exact .inl hn
    · exact .inr ⟨g, cap, cur, rfl, hr.2 g rfl, rest⟩
  refine step_append_lies w hgd s x 73 ho N 110 i0 _ 2 16 Tryz.underlying73 hi hz0 hz1 hz2 rfl (by decide) v zs.length (pcells zs) hs hown ad 1 c [Value.int .i64 y.1.1, .int .i64 y.1.2] hx rfl hnews (by simp [Value.oneCell']) (by omega) (by unfold maxLen; omega) (by omega) hN w.heap.size rfl ?_
  intro g' cap' w' hown' hgr hloc _
  rw [← pcells_snoc] at hown'
  refine h _ w' ⟨?_, ?_⟩ ⟨(Chg.refl _ w).grown hgr (fun k hk => .inl (by simp [hk])), ?_⟩
  · rw [List.length_append, List.length_singleton]
    refine ⟨hown'.1, ?_⟩
    rcases hown'.2 with hn | ⟨g, cap, cur, e, _, rest⟩
    · exact .inl hn
    · exact .inr ⟨g, cap, cur, e, Nat.zero_le _, rest⟩
  · intro k hk
    simp only [Value.ownBlock, Option.some.injEq] at hk
    subst hk
    rcases hloc with e | e
    · exact hr.2 _ e
    · omega
  · rcases hloc with e | e
    · exact .inl e.symm
    · exact .inr ⟨g', rfl, by omega⟩

/-! Distances -/
namespace VT
mutual
def shift (d : Int) : VT → VT
  | node k n s l => node k (if k = 5 then n + d else n) s (shifts d l)
def shifts (d : Int) : List VT → List VT
  | [] => []
  | t :: l => shift d t :: shifts d l
end
mutual
theorem shift_back (d : Int) : ∀ t : VT, shift (-d) (shift d t) = t
  | node k n s l => by
    rw [shift, shift, shifts_back d l]
    by_cases h : k = 5
    · rw [if_pos h, if_pos h]; congr 1; omega
    · rw [if_neg h, if_neg h]
theorem shifts_back (d : Int) : ∀ l : List VT, shifts (-d) (shifts d l) = l
  | [] => by rw [shifts, shifts]
  | t :: l => by rw [shifts, shifts, shift_back d t, shifts_back d l]
end
mutual
theorem shift_refs (d : Int) : ∀ t : VT, (shift d t).refs = t.refs.map (· + d)
  | node k n s l => by
    rw [shift, refs_node, refs_node, shifts_refs d l, List.map_append]
    by_cases h : k = 5
    · rw [if_pos h, if_pos h, if_pos h]; rfl
    · rw [if_neg h, if_neg h]; rfl
theorem shifts_refs (d : Int) : ∀ l : List VT, refsL (shifts d l) = (refsL l).map (· + d)
  | [] => by rw [shifts, refsL_nil]; rfl
  | t :: l => by rw [shifts, refsL_cons, refsL_cons, shift_refs d t, shifts_refs d l, List.map_append]
end
mutual
theorem shift_sz (d : Int) : ∀ t : VT, (shift d t).sz = t.sz
  | node k n s l => by rw [shift, sz, sz, shifts_sz d l]
theorem shifts_sz (d : Int) : ∀ l : List VT, szs (shifts d l) = szs l
  | [] => by rw [shifts]
  | t :: l => by rw [shifts, szs, szs, shift_sz d t, shifts_sz d l]
end
mutual
theorem move_shift {f : Int → Option Int} {d : Int} : ∀ t : VT, (∀ n ∈ t.refs, f n = some (n + d)) → move f t = some (shift d t)
  | node k n s l, h => by
    rw [refs_node] at h
    have hl := moves_shift l (fun m hm => h m (List.mem_append_right _ hm))
    rw [move, shift]
    by_cases h5 : k = 5
    · rw [if_pos h5] at h
      have hn := h n (List.mem_append_left _ (List.mem_singleton.2 rfl))
      rw [if_pos h5, if_pos h5, hn, hl]
    · rw [if_neg h5, if_neg h5, hl]
theorem moves_shift {f : Int → Option Int} {d : Int} : ∀ l : List VT, (∀ n ∈ refsL l, f n = some (n + d)) → moves f l = some (shifts d l)
  | [], _ => by rw [moves_nil, shifts]
  | t :: l, h => by
    rw [refsL_cons] at h
    have ht := move_shift t (fun m hm => h m (List.mem_append_left _ hm))
    have hl := moves_shift l (fun m hm => h m (List.mem_append_right _ hm))
    rw [moves_some l ht, hl, shifts]
    rfl
end
end VT
theorem fold_upd : ∀ (ps : List PW) (f : Int → Option Int) (n c : Int), (∀ x ∈ ps, x.1.1 = n → x.1.2 = c) → ((∃ x ∈ ps, x.1.1 = n) ∨ f n = some c) → ps.foldl upd f n = some c
  | [], f, n, c, _, h => by
    rcases h with ⟨x, hx, _⟩ | h
    · cases hx
    · exact h
  | x :: ps, f, n, c, ha, h => by
    refine fold_upd ps (upd f x) n c (fun y hy => ha y (List.mem_cons_of_mem _ hy)) ?_
    by_cases hx : n = x.1.1
    · right
      unfold upd
      rw [if_pos hx, ha x (List.mem_cons_self ..) hx.symm]
    · rcases h with ⟨y, hy, he⟩ | h
      · rcases List.mem_cons.1 hy with rfl | hy
        · exact absurd he.symm hx
        · exact .inl ⟨y, hy, he⟩
      · right
        unfold upd
        rw [if_neg hx]
        exact h
theorem first_some {zs : List PW} {n c : Int} (h1 : ∀ x ∈ zs, x.1.1 = n → x.1.2 = c) (h2 : ∃ x ∈ zs, x.1.1 = n) : firstOf zs n = some c := by
  unfold firstOf asg
  obtain ⟨x, hx, he⟩ := h2
  exact fold_upd _ _ n c (fun y hy => h1 y (List.mem_reverse.1 hy)) (.inl ⟨x, List.mem_reverse.2 hx, he⟩)
/-- A pair of these numbers. -/
def pw (a b : Int) : PW := if h : (Lit.int .i64 a).wf = true ∧ (Lit.int .i64 b).wf = true then ⟨(a, b), h⟩ else ⟨(0, 0), by decide, by decide⟩
theorem pw_val {a b : Int} (h1 : (Lit.int .i64 a).wf = true) (h2 : (Lit.int .i64 b).wf = true) : (pw a b).1 = (a, b) := by unfold pw; rw [dif_pos ⟨h1, h2⟩]
theorem IRow.cell {w : World} {N n cap : Nat} {ao : Option Addr} {l : List Int} (h : IRow w N (.slice ao n cap) l) {i : Nat} (hi : i < l.length) : ∃ g, ao = some ⟨g, 0, none⟩ ∧ w.cell? ⟨g, i, none⟩ = some (.int .i64 (l.getD i 0)) := by
  rcases h.1.shape with ⟨e, h0⟩ | ⟨g, c, e, h1, h2, hg⟩
  · have h9 : l.length = 0 := by
      have := congrArg List.length h0
      rw [ivals_length] at this
      exact this
    omega
  · have hr := h.1
    rw [e] at hr
    cases e
    refine ⟨g, rfl, ?_⟩
    rw [hr.cellAt i (by rw [ivals_length]; exact hi)]
    simp [ivals, List.getD, hi]
end Go.Proofs.YtenikoecnfbfoaaGreatDoor
/- The reference's Move: pairs in turn in one list. -/
namespace Go.Proofs.YtenikoecnfbfoaaGreatDoor
open Go.RowKit Go.Maps Wr
set_option linter.unusedVariables false

def firstP : List (Int × Int) → Int → Option Int
  | [], _ => none
  | x :: l, n => if x.1 = n then some x.2 else firstP l n
def flatP : List (Int × Int) → List Int
  | [] => []
  | x :: l => x.1 :: x.2 :: flatP l
theorem flatP_len : ∀ l : List (Int × Int), (flatP l).length = 2 * l.length
  | [] => rfl
  | x :: l => by
    have := flatP_len l
    rw [flatP, List.length_cons, List.length_cons, List.length_cons]; omega
theorem flatP_get : ∀ {l : List (Int × Int)} {j : Nat} {x : Int × Int}, l[j]? = some x → (flatP l).getD (2 * j) 0 = x.1 ∧ (flatP l).getD (2 * j + 1) 0 = x.2
  | [], j, x, h => by cases h
  | y :: l, 0, x, h => by
    rw [List.getElem?_cons_zero] at h
    cases h
    simp [flatP, List.getD]
  | y :: l, j + 1, x, h => by
    rw [List.getElem?_cons_succ] at h
    have := flatP_get h
    rw [flatP, show 2 * (j + 1) = 2 * j + 1 + 1 by omega, List.getD_cons_succ, List.getD_cons_succ, show 2 * j + 1 + 1 + 1 = (2 * j + 1) + 1 + 1 by omega, List.getD_cons_succ, List.getD_cons_succ]
    exact this
theorem firstP_drop {l : List (Int × Int)} {j : Nat} {x : Int × Int} (n : Int) (h : l[j]? = some x) : firstP (l.drop j) n = if x.1 = n then some x.2 else firstP (l.drop (j + 1)) n := by
  have hi := (List.getElem?_eq_some_iff.1 h).1
  rw [List.drop_eq_getElem_cons hi, (List.getElem?_eq_some_iff.1 h).2, firstP]
theorem firstP_wf : ∀ {l : List (Int × Int)} {a c : Int}, (∀ x ∈ l, (Lit.int .i64 x.2).wf = true) → firstP l a = some c → (Lit.int .i64 c).wf = true
  | [], a, c, _, h => by cases h
  | x :: l, a, c, hw, h => by
    rw [firstP] at h
    split at h
    · cases h; exact hw x (by simp)
    · exact firstP_wf (fun y hy => hw y (by simp [hy])) h

def LkLoop (ps : List (Int × Int)) (n : Int) (W2 : World) (gk : Nat) (s6 : Value) (wr : World) : Prop :=
  ∃ j q : Nat, s6 = .int .i64 q ∧ q = 2 * j ∧ j + gk = ps.length ∧ firstP ps n = firstP (ps.drop j) n ∧ Below W2.heap.size W2 wr
def RmLoop (W6 : World) (f : Int → Option Int) (la : List VT) (gk : Nat) (s7 s8 : Value) (wr : World) : Prop :=
  ∃ (i : Nat) (done : List VT), s8 = .int .i64 i ∧ KRow wr W6.heap.size s7 done ∧ done.length = i ∧ i + gk = la.length ∧ VT.moves f la = (VT.moves f (la.drop i)).map (done ++ ·) ∧ Below W6.heap.size W6 wr

set_option maxRecDepth 100000 in
set_option maxHeartbeats 1600000 in
theorem refMove_walk (ps : List (Int × Int)) (M : Nat) (sv : Value) (hps : ps.length ≤ 1000) (hwp : ∀ x ∈ ps, (Lit.int .i64 x.2).wf = true) (k : Nat) : ∀ (t : VT) (v : Value) (w : World) (P : Nat → Prop), t.sz ≤ k → t.sz ≤ 100000 → ValIs w P t v → (∀ b, P b → b < w.heap.size) → IRow w M sv (flatP ps) →
    Calls Tryz.prog 34 #[v, sv] w (MoveEnd w (fun _ => False) (t.move (firstP ps))) := by
  induction k with
  | zero => intro t v w P hk; cases t; simp [VT.sz] at hk
  | succ k ih =>
    intro t v w P hk hsz ht hP hm
    cases t with
    | node ka na sa la =>
    unfold ValIs at ht
    obtain ⟨ao, cap, rfl, a1, a2, a3, a4, a5, a6, a7⟩ := ht
    obtain ⟨L, hL⟩ : ∃ L, (flatP ps).length = L := ⟨_, rfl⟩
    have hL2 : L = 2 * ps.length := by rw [← hL]; exact flatP_len ps
    obtain ⟨aol, cl, hsv, hcl⟩ := hm.form
    rw [hL] at hsv hcl
    subst hsv
    obtain ⟨W2, hW2⟩ : ∃ W2, W2 = (w.alloc (.cells #[.int .i64 ka, .int .i64 na, .string sa, .slice ao la.length cap] 47 (0, 0))).alloc Z4 := ⟨_, rfl⟩
    have hb2 : Below w.heap.size w W2 := by rw [hW2]; exact ((Below.refl _ _).alloc (Nat.le_refl _) _).alloc (by simp) _
    have hs2 : W2.heap.size = w.heap.size + 2 := by rw [hW2]; simp
    have z2V : W2.heap[w.heap.size]? = some (.cells #[.int .i64 ka, .int .i64 na, .string sa, .slice ao la.length cap] 47 (0, 0)) := by rw [hW2]; exact (Below.heap_alloc _ _ _ (by simp)).trans (World.alloc_heap_new _ _)
    have z2R : W2.heap[w.heap.size + 1]? = some Z4 := by
      rw [hW2]
      have := World.alloc_heap_new (w.alloc (.cells #[.int .i64 ka, .int .i64 na, .string sa, .slice ao la.length cap] 47 (0, 0))) Z4
      simpa using this
    obtain ⟨v0, v1, v2, v3, v4⟩ := hdr4_cells z2V
    obtain ⟨r0, r1, r2, r3, r4⟩ := hdr4_cells z2R
    have HM := Lib.hid hm
    have HMW := Lib.hid (hm.below hb2)
    have HW2 := Lib.hid hW2
    have B2 := Lib.hid hb2
    have S2 := Lib.hid hs2
    have ZV := Lib.hid z2V
    have ZR := Lib.hid z2R
    have HA7 := Lib.hid a7
    have HP := Lib.hid hP
    have HLL := Lib.hid hL
    have HL2 := Lib.hid hL2
    clear hL2 hb2 hs2 z2V z2R a7 hP hm hL
    cases hn : (if ka = 5 then firstP ps na else some na) with
    | none =>
      have h5 : ka = 5 := by by_cases h : ka = 5; exact h; rw [if_neg h] at hn; cases hn
      subst h5
      rw [if_pos rfl] at hn
      have HN := Lib.hid hn
      rw [move_none (by rw [if_pos rfl]; exact hn)]
      clear hn
      go_enter Tryz.func34, Tryz.ntmps34
      go_upto_if 13 with fail
      rw [← HW2.out]
      clear hW2
      go_wp2
      have HK : Hid (LkLoop ps na W2 ps.length (.int .i64 0) W2) := ⟨0, 0, rfl, rfl, by omega, rfl, Below.refl _ _⟩
      go_loopg [6] ps.length (fun gk s6 wr => LkLoop ps na W2 gk s6 wr)
      case atStart => exact HK.out
      case round =>
        clear HK
        obtain ⟨j, q, rfl, hq, hjk, hfp, hbr⟩ := hrel
        have zv := (hbr.block w.heap.size (lt_of_block ZV.out)).trans ZV.out
        have zr := (hbr.block (w.heap.size + 1) (lt_of_block ZR.out)).trans ZR.out
        clear v0 v1 v2 v3 v4 r0 r1 r2 r3 r4
        obtain ⟨v0, v1, v2, v3, v4⟩ := hdr4_cells zv
        obtain ⟨r0, r1, r2, r3, r4⟩ := hdr4_cells zr
        have ZVR := Lib.hid zv
        have ZRR := Lib.hid zr
        have HBR := Lib.hid hbr
        have HMR := Lib.hid (HMW.out.below hbr)
        clear hbr zv zr
        have HFP := Lib.hid hfp
        have HQ := Lib.hid hq
        clear hfp
        have g0 : (0 : Int) ≤ (q : Int) := by omega
        have g9 : (q : Int) ≤ 2000 := by omega
        by_cases hlt : j < ps.length
        · have g1 : (q : Int) < (L : Int) := by have := HL2.out; omega
          obtain ⟨x, hx⟩ : ∃ x, ps[j]? = some x := ⟨_, List.getElem?_eq_getElem hlt⟩
          have hd := firstP_drop na hx
          obtain ⟨g, rfl, p0⟩ := HMR.out.cell (i := q) (by rw [HLL.out]; have := HL2.out; omega)
          rw [hq, (flatP_get hx).1, ← hq] at p0
          have hne : ¬ x.1 = na := by intro h; rw [if_pos h] at hd; rw [← HFP.out, HN.out] at hd; cases hd
          rw [if_neg hne] at hd
          have HD := Lib.hid (HFP.out.trans hd)
          have hb1 : (x.1 != na) = true := by simpa using hne
          have hb3 : (x.1 == na) = false := by simpa using hne
          clear hd hx hq
          go_wp2
          go_quiet (fail)
          go_wp2
          go_roundg (gk - 1)
          case measure => omega
          case rel => exact ⟨j + 1, q + 2, by go_num, by have := HQ.out; omega, by omega, HD.out, below_drewN HBR.out _⟩
        · have g1 : ¬ q < L := by have := HL2.out; omega
          have g2 : (L : Int) ≤ (q : Int) := by have := HL2.out; omega
          clear hq
          go_wp2
          go_quiet (fail)
          go_wp2
          all_goals
            obtain ⟨z1, z2⟩ := four_ret (y0 := .int .i64 0) (y1 := .int .i64 0) (y2 := .string ⟨#[]⟩) (y3 := .slice none 0 0) (w := wr.drewN nq) ZRR.out
            generalize ((((World.setCell _ _ _).setCell _ _).setCell _ _).setCell _ _) = wz at z1 z2 ⊢
            obtain ⟨y0, y1, y2, y3, _⟩ := hdr4_cells z1
            refine bodyPost_ret (v := .tuple #[.agg #[.int .i64 0, .int .i64 0, .string ⟨#[]⟩, .slice none 0 0], .bool false]) (by simp [results, Tryz.results34, go_sem, y0, y1, y2, y3]) rfl ?_
            exact zero_ret ((B2.out.trans ((below_drewN HBR.out _).mono B2.out.size)).trans (z2.below (Nat.le_trans B2.out.size HBR.out.size) (by simp)))
    | some n' =>
      have HMK := Lib.hid (move_kids (s := sa) (l := la) hn)
      have hwn : (Lit.int .i64 n').wf = true := by
        by_cases h : ka = 5
        · rw [if_pos h] at hn; exact firstP_wf hwp hn
        · rw [if_neg h] at hn; cases hn; exact a5
      have HWN := Lib.hid hwn
      clear hwn
      go_enter Tryz.func34, Tryz.ntmps34
      go_upto_if 13 with fail
      rw [← HW2.out]
      clear hW2
      go_cut [6] (fun _ wx => MvHead w W2 ka n' sa ao la.length cap wx)
      case first =>
        by_cases h5 : ka = 5
        · subst h5
          rw [if_pos rfl] at hn
          have HN := Lib.hid hn
          clear hn
          go_wp2
          have HK : Hid (LkLoop ps na W2 ps.length (.int .i64 0) W2) := ⟨0, 0, rfl, rfl, by omega, rfl, Below.refl _ _⟩
          go_loopg [6] ps.length (fun gk s6 wr => LkLoop ps na W2 gk s6 wr)
          case atStart => exact HK.out
          case round =>
            clear HK
            obtain ⟨j, q, rfl, hq, hjk, hfp, hbr⟩ := hrel
            have zv := (hbr.block w.heap.size (lt_of_block ZV.out)).trans ZV.out
            have zr := (hbr.block (w.heap.size + 1) (lt_of_block ZR.out)).trans ZR.out
            clear v0 v1 v2 v3 v4 r0 r1 r2 r3 r4
            obtain ⟨v0, v1, v2, v3, v4⟩ := hdr4_cells zv
            obtain ⟨r0, r1, r2, r3, r4⟩ := hdr4_cells zr
            have ZVR := Lib.hid zv
            have ZRR := Lib.hid zr
            have HBR := Lib.hid hbr
            have HMR := Lib.hid (HMW.out.below hbr)
            clear hbr zv zr
            have HFP := Lib.hid hfp
            have HQ := Lib.hid hq
            clear hfp
            have g0 : (0 : Int) ≤ (q : Int) := by omega
            have g9 : (q : Int) ≤ 2000 := by omega
            by_cases hlt : j < ps.length
            · have g1 : (q : Int) < (L : Int) := by have := HL2.out; omega
              have g2 : ¬ (L : Int) ≤ (q : Int) := by have := HL2.out; omega
              obtain ⟨x, hx⟩ : ∃ x, ps[j]? = some x := ⟨_, List.getElem?_eq_getElem hlt⟩
              have hd := firstP_drop na hx
              obtain ⟨g, e, p0⟩ := HMR.out.cell (i := q) (by rw [HLL.out]; have := HL2.out; omega)
              obtain ⟨g', e', p1⟩ := HMR.out.cell (i := q + 1) (by rw [HLL.out]; have := HL2.out; omega)
              rw [e] at e'
              cases e'
              subst e
              rw [hq, (flatP_get hx).1, ← hq] at p0
              rw [hq, (flatP_get hx).2, ← hq] at p1
              by_cases hne : x.1 = na
              · rw [if_pos hne, ← HFP.out, HN.out] at hd
                have hxn : x.2 = n' := by cases hd; rfl
                rw [hne] at p0
                rw [hxn] at p1
                have hw1 : IntKind.i64.wrap ((q : Int) + 1) = (q : Int) + 1 := by rw [IntKind.wrap_i64]; omega
                have g3 : (q : Int) + 1 < (L : Int) := by have := HL2.out; omega
                have hb1 : (na != na) = false := by simp
                clear hd hx hq
                go_wp2
                go_quiet (fail)
                go_wp2
                go_meet
                exact ⟨(hdr4_set (w := wr.drewN nq) ZVR.out).trans rfl, (((Chg.refl [w.heap.size] W2).thenBelow (below_drewN HBR.out nq)).setCell (p := ⟨w.heap.size, 1, none⟩) (.inl (by simp)) _)⟩
              · rw [if_neg hne] at hd
                have HD := Lib.hid (HFP.out.trans hd)
                have hb1 : (x.1 != na) = true := by simpa using hne
                have hb3 : (x.1 == na) = false := by simpa using hne
                clear hd hx hq
                go_wp2
                go_quiet (fail)
                go_wp2
                go_roundg (gk - 1)
                case measure => omega
                case rel => exact ⟨j + 1, q + 2, by go_num, by have := HQ.out; omega, by omega, HD.out, below_drewN HBR.out _⟩
            · exfalso
              have := HFP.out
              rw [HN.out, List.drop_eq_nil_of_le (by omega)] at this
              cases this
        · rw [if_neg h5] at hn
          cases hn
          have hq : (ka == 5) = false := by simpa using h5
          go_wp2
          go_meet
          exact ⟨ZV.out, Chg.refl _ _⟩
      case rest =>
        obtain ⟨zv, hc⟩ := hcut
        clear hn v0 v1 v2 v3 v4 r0 r1 r2 r3 r4
        have hbc : Below w.heap.size w wc := B2.out.trans (hc.below B2.out.size (by simp))
        have zr := (hc.block (w.heap.size + 1) (lt_of_block ZR.out) (by simp)).trans ZR.out
        have hll : la.length ≤ 100000 := by
          have := VT.szs_len la
          rw [VT.sz] at hsz
          omega
        have HBC := Lib.hid hbc
        have ZR3 := Lib.hid zr
        have ZV3 := Lib.hid zv
        have S3 : Hid (w.heap.size + 2 ≤ wc.heap.size) := by have := hc.size; have := S2.out; show _ ≤ _; omega
        clear hbc zr zv hc ZV ZR HMW
        have HL : Hid (RmLoop wc (firstP ps) la la.length (.slice none 0 0) (.int .i64 0) wc) := ⟨0, [], rfl, KRow.nil _ _, rfl, by omega, by simp, Below.refl _ _⟩
        go_wp2
        go_loopg [7, 8] la.length (fun gk s7 s8 wr => RmLoop wc (firstP ps) la gk s7 s8 wr)
        case atStart => exact HL.out
        case round =>
          clear HL
          obtain ⟨i, done, rfl, hkr, hdl, hik, hmv, hbe⟩ := hrel
          have zv := (hbe.block w.heap.size (lt_of_block ZV3.out)).trans ZV3.out
          have zr := (hbe.block (w.heap.size + 1) (lt_of_block ZR3.out)).trans ZR3.out
          have hbr : Below w.heap.size w wr := HBC.out.trans (hbe.mono HBC.out.size)
          obtain ⟨v0, v1, v2, v3, v4⟩ := hdr4_cells zv
          obtain ⟨r0, r1, r2, r3, r4⟩ := hdr4_cells zr
          have ZVR := Lib.hid zv
          have ZRR := Lib.hid zr
          have HBR := Lib.hid hbr
          have HKR := Lib.hid hkr
          have HMV := Lib.hid hmv
          have HBE := Lib.hid hbe
          have HDL := Lib.hid hdl
          clear zv zr hbr hmv hbe hkr
          have g0 : (0 : Int) ≤ (i : Int) := by omega
          by_cases hlt : i < la.length
          · have g1 : (i : Int) < (la.length : Int) := by omega
            obtain ⟨tk, htk⟩ : ∃ u, la[i]? = some u := ⟨_, List.getElem?_eq_getElem hlt⟩
            have hdrop := VT.drop_kid htk
            obtain ⟨bb, oo, x0, x1, x2, x3, rfl, hbb, p0, p1, p2, p3, hvk⟩ := HA7.out.get htk
            rw [Nat.zero_add] at p0 p1 p2 p3
            have hbb' := HP.out _ hbb
            replace p0 := (HBR.out.cell (p := ⟨bb, oo + i * 4, none⟩) hbb').trans p0
            replace p1 := (HBR.out.cell (p := ⟨bb, oo + i * 4 + 1, none⟩) hbb').trans p1
            replace p2 := (HBR.out.cell (p := ⟨bb, oo + i * 4 + 2, none⟩) hbb').trans p2
            replace p3 := (HBR.out.cell (p := ⟨bb, oo + i * 4 + 3, none⟩) hbb').trans p3
            have HVK := Lib.hid (hvk.below HBR.out HP.out)
            have HPB : Hid (∀ b, (P b ∧ b < w.heap.size) → b < wr.heap.size) := fun b hb => Nat.lt_of_lt_of_le hb.2 HBR.out.size
            have hsk : tk.sz ≤ k := by
              have h5 : tk.sz < (VT.node ka na sa la).sz := VT.sz_kid (t := VT.node ka na sa la) htk
              omega
            have hsk2 : tk.sz ≤ 100000 := by
              have h5 : tk.sz < (VT.node ka na sa la).sz := VT.sz_kid (t := VT.node ka na sa la) htk
              omega
            have HI := Lib.hid (ih tk _ wr P hsk hsk2 HVK.out (fun b hb => Nat.lt_of_lt_of_le (HP.out b hb) HBR.out.size) (HM.out.below HBR.out))
            have HDR := Lib.hid hdrop
            clear hvk hdrop htk
            cases hr : tk.move (firstP ps) with
            | none =>
              rw [hr] at HI
              have HNO : Hid (VT.moves (firstP ps) la = none) := by show _ = _; rw [HMV.out, HDR.out, VT.moves_none _ hr]; rfl
              go_wp2_with (go_at_call 34; refine HI.out.mono ?_; rintro e w7 ⟨v7, rfl, hv7, hb7⟩; obtain ⟨ao7, cap7, rfl⟩ := hv7.form; have zr7 := (hb7.block (w.heap.size + 1) (lt_of_block ZRR.out)).trans ZRR.out; have zr8 := fun o => later_box zr7 o; obtain ⟨r0, r1, r2, r3, r4⟩ := hdr4_cells zr7; have ZR7 := Lib.hid zr7; have B7 := Lib.hid (HBR.out.trans (hb7.mono HBR.out.size)); clear hv7 hb7 zr7; unfold vval)
              all_goals
                obtain ⟨z1, z2⟩ := four_ret (y0 := .int .i64 0) (y1 := .int .i64 0) (y2 := .string ⟨#[]⟩) (y3 := .slice none 0 0) ((Below.heap_alloc _ _ _ (lt_of_block ZR7.out)).trans ZR7.out)
                generalize ((((World.setCell (World.alloc w7 _) _ _).setCell _ _).setCell _ _).setCell _ _) = wz at z1 z2 ⊢
                obtain ⟨y0, y1, y2, y3, _⟩ := hdr4_cells z1
                refine bodyPost_ret (v := .tuple #[.agg #[.int .i64 0, .int .i64 0, .string ⟨#[]⟩, .slice none 0 0], .bool false]) (by simp [results, Tryz.results34, go_sem, y0, y1, y2, y3]) rfl ?_
                rw [HMK.out, HNO.out]
                exact zero_ret ((B7.out.trans ((Below.refl _ _).alloc B7.out.size _)).trans (z2.below (by have := B7.out.size; simp; omega) (by simp)))
            | some tk' =>
              rw [hr] at HI
              have HYES : Hid (VT.moves (firstP ps) la = (VT.moves (firstP ps) (la.drop (i + 1))).map ((done ++ [tk']) ++ ·)) := by
                show _ = _
                rw [HMV.out, HDR.out, VT.moves_some _ hr]
                cases VT.moves (firstP ps) (la.drop (i + 1)) <;> simp
              go_wp2_with
                (first
                 | (go_at_call 34; refine HI.out.mono ?_; rintro e w7 ⟨v7, rfl, hv7, hb7⟩; replace hv7 : ValIs w7 (fun b => wr.heap.size ≤ b ∧ b < w7.heap.size) tk' v7 := (hv7.mono (fun b hb => ⟨by rcases hb.1 with h | h; exact h.elim; exact h, hb.2⟩));
                    obtain ⟨ao7, cap7, rfl⟩ := hv7.form; have HV7 := Lib.hid hv7; have HB7 := Lib.hid hb7; obtain ⟨ps7, k1, k2, k3, k4⟩ := HKR.out.below hb7; have K1 := Lib.hid k1; have K2 := Lib.hid k2; have K3 := Lib.hid k3; have K4 := Lib.hid k4; clear hv7 hb7 k1 k2 k3 k4; unfold vval)
                 | (at_builtin; (refine wpList_appz _ rfl _ _ 29 rfl 47 _ 4 56 Tryz.underlying29 infoV rfl (by decide) _ done.length (kcells done ps7) rfl ((K2.out.alloc _).alloc _) ⟨w7.heap.size + 1, 0, none⟩ 1 1 (kcell tk' (ao7, cap7)) rfl (by omega) rfl (cell_four_new2 _ _ _ _ _ _ _) (kcell_one _ _) (by rw [HDL.out]; omega) (by omega) ?_; intro g cap1 w1 hr1 hg1 hl1)))
              obtain ⟨n1, n2⟩ := kids_app HKR.out HBE.out.size HB7.out K1.out K3.out K4.out HV7.out hr1 hg1 hl1
              go_roundg (gk - 1)
              case measure => omega
              case rel => exact ⟨i + 1, done ++ [tk'], by go_num, by rw [← HDL.out]; exact n1, by rw [List.length_append, List.length_singleton, HDL.out], by omega, HYES.out, HBE.out.trans n2⟩
          · obtain rfl : i = la.length := by omega
            obtain ⟨so, cs, rfl, hle, hcm, h0, hks⟩ := HKR.out.kids
            have HKS := Lib.hid hks
            have hMM : VT.moves (firstP ps) la = some done := by rw [HMV.out, List.drop_length, VT.moves_nil]; simp
            have HMM := Lib.hid hMM
            clear hks hMM
            go_upto_region 17 with fail
            obtain ⟨w8, hw8⟩ : ∃ w8, w8 = wr.setCell ⟨w.heap.size, 3, none⟩ (.slice so la.length cs) := ⟨_, rfl⟩
            rw [← hw8]
            have zv8 : w8.heap[w.heap.size]? = some (.cells #[.int .i64 ka, .int .i64 n', .string sa, .slice so la.length cs] 47 (0, 0)) := by rw [hw8]; exact (hdr4_set ZVR.out).trans rfl
            have c8 : Chg [w.heap.size] wr w8 := by rw [hw8]; exact chg1_set wr w.heap.size 3 _
            have zr8 : w8.heap[w.heap.size + 1]? = some Z4 := (c8.block _ (lt_of_block ZRR.out) (by simp)).trans ZRR.out
            have hb8 : Below w.heap.size w w8 := HBR.out.trans (c8.below HBR.out.size (by simp))
            have hk8 : KidsAt w8 (fun b => (False ∨ w.heap.size ≤ b) ∧ b < w8.heap.size ∧ b ≠ w.heap.size + 1) done so 0 := by
              have hk1 : KidsAt w8 (fun b => wc.heap.size ≤ b ∧ b < wr.heap.size) done so 0 := HKS.out.keep (fun b h => h) (fun p hp => c8.cell hp.2 (by have := S3.out; have := hp.1; simp only [List.mem_singleton]; omega))
              exact hk1.keep (fun b h => ⟨.inr (by have := S3.out; omega), Nat.lt_of_lt_of_le h.2 c8.size, by have := S3.out; omega⟩) (fun p hp => rfl)
            clear hw8 v0 v1 v2 v3 v4 r0 r1 r2 r3 r4
            obtain ⟨v0, v1, v2, v3, v4⟩ := hdr4_cells zv8
            obtain ⟨r0, r1, r2, r3, r4⟩ := hdr4_cells zr8
            have ZR8 := Lib.hid zr8
            have HB8 := Lib.hid hb8
            have HK8 := Lib.hid hk8
            clear zr8 hb8 hk8 c8 zv8
            go_wp2
            all_goals
              obtain ⟨z1, z2⟩ := four_ret (y0 := .int .i64 ka) (y1 := .int .i64 n') (y2 := .string sa) (y3 := .slice so la.length cs) ZR8.out
              generalize ((((World.setCell _ _ _).setCell _ _).setCell _ _).setCell _ _) = wz at z1 z2 ⊢
              obtain ⟨y0, y1, y2, y3, _⟩ := hdr4_cells z1
              refine bodyPost_ret (v := .tuple #[.agg #[.int .i64 ka, .int .i64 n', .string sa, .slice so la.length cs], .bool true]) (by simp [results, Tryz.results34, go_sem, y0, y1, y2, y3]) rfl ?_
              rw [HMK.out, HMM.out]
              have := mv_end (P := fun _ => False) a4 HWN.out a3 hle hcm h0 HK8.out z2 HB8.out
              rw [hdl] at this
              exact this
end Go.Proofs.YtenikoecnfbfoaaGreatDoor
/- Layer 8 in plain words: directories, graphs. No program in sight. -/
namespace Go.Proofs.YtenikoecnfbfoaaGreatDoor
namespace Gr
set_option linter.unusedVariables false
set_option linter.unusedSimpArgs false

def strV (s : List UInt8) : VT := .node 2 0 (bytes s) []
def refV (n : Int) : VT := .node 5 n ⟨#[]⟩ []
def tupV (r : RT) : VT := .node 4 0 ⟨#[]⟩ [strV r.name, strV r.typ, refV r.id]
def noneV : VT := .node 3 0 ⟨#[]⟩ []
/-- A directory, as a value. -/
def dirV : List RT → VT
  | [] => noneV
  | r :: l => .node 3 1 ⟨#[]⟩ [tupV r, dirV l]
def zeroV : VT := .node 0 0 ⟨#[]⟩ []
def dirT (l : List RT) : VT × Int :=
  if 100 < l.length then (zeroV, 4)
  else match sortO l [] with
    | none => (zeroV, 2)
    | some s => if encErr (dirV s) = 0 then (dirV s, 0) else (zeroV, encErr (dirV s))
def rootOf (a b c : VT) : RT := ⟨a.text.data.toList, b.text.data.toList, c.num⟩
/-- What stands in a value that may be a directory. -/
def gather : Nat → VT → List RT → Option (List RT)
  | 0, _, out => some out
  | f + 1, .node k n s [.node k2 n2 s2 ks, y], out =>
    if k = 3 ∧ n = 1 ∧ out.length ≤ 100 then
      match ks with
      | [a, b, c] => gather f y (out ++ [rootOf a b c])
      | _ => none
    else some out
  | _ + 1, _, out => some out
def rootsT (v : VT) : Option (List RT) :=
  match gather 102 v [] with
  | none => none
  | some out => if (dirT out).2 = 0 ∧ v.same (dirT out).1 = true then some out else none
/-- A number that is met. -/
def meetT (met : List Int) (id : Int) : List Int := if met.contains id then met else met ++ [id]
def pairsF : Nat → List Int → List (Int × Int)
  | _, [] => []
  | k, id :: l => (id, (k : Int)) :: pairsF (k + 1) l
def pairs (met : List Int) : List (Int × Int) := pairsF 1 met
def numOf (met : List Int) (id : Int) : Int := (firstP (pairs met) id).getD 0
def findO (objs : List (Int × VT)) (id : Int) : Option VT := (objs.find? fun o => o.1 == id).map (·.2)
/-- Objects are met, one behind the other; none: one isn't there. -/
def bfs (objs : List (Int × VT)) : Nat → Nat → List Int → List VT → Option (List Int × List VT)
  | 0, _, met, vals => some (met, vals)
  | f + 1, i, met, vals => match met[i]? with
    | none => some (met, vals)
    | some id => match findO objs id with
      | none => none
      | some v => bfs objs f (i + 1) (v.refs.foldl meetT met) (vals ++ [v])
structure GT where
  roots : List RT
  objs : List VT
def makeT (roots : List RT) (objs : List (Int × VT)) : GT × Int :=
  if (dirT roots).2 ≠ 0 then (⟨[], []⟩, (dirT roots).2)
  else if objs.any (fun o => decide (encErr o.2 ≠ 0)) then (⟨[], []⟩, 2)
  else match sortO roots [] with
    | none => (⟨[], []⟩, 2)
    | some s => match bfs objs (objs.length + 1) 0 ((s.map RT.id).foldl meetT []) [] with
      | none => (⟨[], []⟩, 5)
      | some (met, vals) => (⟨s.map fun r => ⟨r.name, r.typ, numOf met r.id⟩, vals.map fun v => (v.move (firstP (pairs met))).getD zeroV⟩, 0)

theorem meetT_mem {met : List Int} {id x : Int} : x ∈ meetT met id ↔ x ∈ met ∨ x = id := by
  unfold meetT
  split
  · rename_i h
    have h : id ∈ met := by simpa using h
    constructor
    · exact .inl
    · rintro (h1 | rfl)
      · exact h1
      · exact h
  · simp
theorem meetT_nodup {met : List Int} {id : Int} (h : met.Nodup) : (meetT met id).Nodup := by
  unfold meetT
  split
  · exact h
  · rename_i hc
    have hc : id ∉ met := by simpa using hc
    rw [List.nodup_append]
    exact ⟨h, by simp, fun a ha b hb e => by simp at hb; subst hb; subst e; exact hc ha⟩
theorem meetT_pre {met : List Int} {id : Int} : met <+: meetT met id := by
  unfold meetT
  split
  · exact List.prefix_refl _
  · exact List.prefix_append _ _
theorem meets_nodup : ∀ {l met : List Int}, met.Nodup → (l.foldl meetT met).Nodup
  | [], _, h => h
  | x :: l, met, h => by rw [List.foldl_cons]; exact meets_nodup (meetT_nodup h)
theorem meets_pre : ∀ {l met : List Int}, met <+: l.foldl meetT met
  | [], _ => List.prefix_refl _
  | x :: l, met => by rw [List.foldl_cons]; exact meetT_pre.trans meets_pre
theorem meets_mem {x : Int} : ∀ {l met : List Int}, x ∈ l.foldl meetT met ↔ x ∈ met ∨ x ∈ l
  | [], _ => by simp
  | y :: l, met => by rw [List.foldl_cons, meets_mem, meetT_mem, List.mem_cons, or_assoc]
theorem findO_mem {objs : List (Int × VT)} {id : Int} {v : VT} (h : findO objs id = some v) : (id, v) ∈ objs := by
  unfold findO at h
  cases hf : objs.find? (fun o => o.1 == id) with
  | none => rw [hf] at h; cases h
  | some o =>
    rw [hf] at h
    cases h
    have h1 := List.mem_of_find?_eq_some hf
    have h2 := List.find?_some hf
    have h2 : o.1 = id := by simpa using h2
    rw [← h2]
    exact h1
theorem nodup_sub : ∀ {a b : List Int}, a.Nodup → a ⊆ b → a.length ≤ b.length
  | [], _, _, _ => by simp
  | x :: a, b, hn, hs => by
    have hc := List.nodup_cons.1 hn
    have hx : x ∈ b := hs (List.mem_cons_self ..)
    have h1 : a ⊆ b.erase x := fun y hy => by
      have hyb : y ∈ b := hs (List.mem_cons_of_mem _ hy)
      have hne : y ≠ x := fun e => hc.1 (e ▸ hy)
      exact (List.mem_erase_of_ne hne).2 hyb
    have := nodup_sub hc.2 h1
    rw [List.length_erase_of_mem hx] at this
    have hpos : 0 < b.length := List.length_pos_of_mem hx
    rw [List.length_cons]
    omega
/-- What has been met and found lies among the objects: so there are no more of them. -/
theorem bfs_bound {objs : List (Int × VT)} {met : List Int} {i : Nat} (hn : met.Nodup) (hi : i ≤ met.length) (h : ∀ j, j < i → ∃ v, findO objs (met.getD j 0) = some v) : i ≤ objs.length := by
  have h1 : (met.take i).Nodup := hn.sublist (List.take_sublist i met)
  have h2 : (met.take i) ⊆ objs.map (·.1) := by
    intro x hx
    obtain ⟨j, hj, rfl⟩ := List.mem_iff_getElem.1 hx
    rw [List.length_take] at hj
    obtain ⟨v, hv⟩ := h j (by omega)
    have hm := findO_mem hv
    rw [List.getElem_take]
    have e : met.getD j 0 = met[j] := by simp [List.getD, show j < met.length by omega]
    rw [e] at hm
    exact List.mem_map.2 ⟨_, hm, rfl⟩
  have h3 := nodup_sub h1 h2
  rw [List.length_take, List.length_map] at h3
  omega
end Gr
end Go.Proofs.YtenikoecnfbfoaaGreatDoor
/- Layer 8: the document's number and meet. -/
namespace Go.Proofs.YtenikoecnfbfoaaGreatDoor
open Go.RowKit
set_option linter.unusedVariables false
set_option linter.unusedSimpArgs false
namespace Gr
theorem pairsF_len : ∀ (l : List Int) (k : Nat), (pairsF k l).length = l.length
  | [], _ => rfl
  | x :: l, k => by rw [pairsF, List.length_cons, pairsF_len l, List.length_cons]
theorem pairs_len (l : List Int) : (pairs l).length = l.length := pairsF_len l 1
theorem pairsF_snoc (x : Int) : ∀ (l : List Int) (k : Nat), pairsF k (l ++ [x]) = pairsF k l ++ [(x, ((k + l.length : Nat) : Int))]
  | [], k => by simp [pairsF]
  | y :: l, k => by
    rw [List.cons_append, pairsF, pairsF_snoc x l, pairsF, List.cons_append, List.length_cons]
    congr 4
    omega
theorem pairs_snoc (l : List Int) (x : Int) : pairs (l ++ [x]) = pairs l ++ [(x, ((l.length + 1 : Nat) : Int))] := by
  unfold pairs
  rw [pairsF_snoc, Nat.add_comm]
theorem pairsF_none {id : Int} : ∀ {l : List Int} {k : Nat}, id ∉ l → firstP (pairsF k l) id = none
  | [], _, _ => rfl
  | x :: l, k, h => by
    rw [pairsF, firstP]
    rw [if_neg (fun e => h (by rw [← e]; exact List.mem_cons_self ..))]
    exact pairsF_none (fun hm => h (List.mem_cons_of_mem _ hm))
theorem pairsF_some {id : Int} : ∀ {l : List Int} {k : Nat}, id ∈ l → ∃ c : Nat, k ≤ c ∧ c < k + l.length ∧ firstP (pairsF k l) id = some (c : Int)
  | [], _, h => by cases h
  | x :: l, k, h => by
    rw [pairsF, firstP]
    by_cases e : x = id
    · rw [if_pos e]
      exact ⟨k, Nat.le_refl _, by simp, rfl⟩
    · rw [if_neg e]
      obtain ⟨c, h1, h2, h3⟩ := pairsF_some (k := k + 1) (List.mem_of_ne_of_mem (fun e' => e e'.symm) h)
      exact ⟨c, by omega, by rw [List.length_cons]; omega, h3⟩
theorem numOf_in {met : List Int} {id : Int} (h : id ∈ met) : 0 < numOf met id ∧ numOf met id ≤ (met.length : Int) := by
  obtain ⟨c, h1, h2, h3⟩ := pairsF_some (k := 1) h
  unfold numOf pairs
  rw [h3]
  show 0 < (c : Int) ∧ (c : Int) ≤ _
  omega
theorem numOf_out {met : List Int} {id : Int} (h : id ∉ met) : numOf met id = 0 := by
  unfold numOf pairs
  rw [pairsF_none h]
  rfl
theorem meetT_in {met : List Int} {id : Int} (h : id ∈ met) : meetT met id = met := by
  unfold meetT
  rw [if_pos (by simpa using h)]
theorem meetT_out {met : List Int} {id : Int} (h : id ∉ met) : meetT met id = met ++ [id] := by
  unfold meetT
  rw [if_neg (by simpa using h)]
theorem meetT_len (met : List Int) (id : Int) : (meetT met id).length ≤ met.length + 1 := by
  unfold meetT
  split <;> simp
theorem meets_len : ∀ (l met : List Int), (l.foldl meetT met).length ≤ met.length + l.length
  | [], met => by simp
  | x :: l, met => by
    have h1 := meets_len l (meetT met x)
    have h2 := meetT_len met x
    rw [List.foldl_cons, List.length_cons]
    omega
end Gr
theorem flatP_app : ∀ (a b : List (Int × Int)), flatP (a ++ b) = flatP a ++ flatP b
  | [], b => rfl
  | x :: a, b => by rw [List.cons_append, flatP, flatP, flatP_app a b]; rfl
def NmLoop (ps : List (Int × Int)) (n : Int) (w : World) (gk : Nat) (s5 : Value) (wr : World) : Prop :=
  ∃ j q : Nat, s5 = .int .i64 q ∧ q = 2 * j ∧ j + gk = ps.length ∧ firstP ps n = firstP (ps.drop j) n ∧ w = wr
/-- A slice of numbers, read. -/
def NumsAt (w : World) (v : Value) (l : List Int) : Prop := ∃ ao cap, v = .slice ao l.length cap ∧ ∀ i, i < l.length → ∃ g, ao = some ⟨g, 0, none⟩ ∧ w.cell? ⟨g, i, none⟩ = some (.int .i64 (l.getD i 0))
theorem IRow.nums {w : World} {N : Nat} {v : Value} {l : List Int} (h : IRow w N v l) : NumsAt w v l := by
  obtain ⟨ao, cap, rfl, _⟩ := h.form
  exact ⟨ao, cap, rfl, fun i hi => h.cell hi⟩
set_option maxRecDepth 100000 in
theorem number_any (ps : List (Int × Int)) (n : Int) (w : World) (M : Nat) (sv : Value) (hps : ps.length ≤ 1000000) (hm : IRow w M sv (flatP ps)) :
    Calls Tryz.prog 35 #[sv, .int .i64 n] w fun e w' => e = .returned (.int .i64 ((firstP ps n).getD 0)) ∧ w = w' := by
  obtain ⟨L, hL⟩ : ∃ L, (flatP ps).length = L := ⟨_, rfl⟩
  have hL2 : L = 2 * ps.length := by rw [← hL]; exact flatP_len ps
  obtain ⟨aol, cl, hsv, hcl⟩ := hm.nums
  rw [hL] at hsv hcl
  subst hsv
  have HC := Lib.hid hcl
  have HL2 := Lib.hid hL2
  have hL3 : (L : Int) ≤ 2000000 := by omega
  clear hcl hm hL
  go_enter Tryz.func35, Tryz.ntmps35
  clear hL2
  go_wp2
  go_loopg [5] ps.length (fun gk s5 wr => NmLoop ps n w gk s5 wr)
  case atStart => exact ⟨0, 0, rfl, rfl, by omega, rfl, rfl⟩
  case round =>
    obtain ⟨j, q, rfl, hq, hjk, hfp, rfl⟩ := hrel
    have HFP := Lib.hid hfp
    have HQ := Lib.hid hq
    clear hfp
    have g0 : (0 : Int) ≤ (q : Int) := by omega
    have g9 : (q : Int) ≤ 2000000 := by have := HL2.out; omega
    by_cases hlt : j < ps.length
    · have g1 : (q : Int) < (L : Int) := by have := HL2.out; omega
      have g2 : (q : Int) + 1 < (L : Int) := by have := HL2.out; omega
      have g3 : (0 : Int) ≤ (q : Int) + 1 := by omega
      obtain ⟨x, hx⟩ : ∃ x, ps[j]? = some x := ⟨_, List.getElem?_eq_getElem hlt⟩
      have hd := firstP_drop n hx
      obtain ⟨g, rfl, p0⟩ := HC.out q (by have := HL2.out; omega)
      obtain ⟨g', e', p1⟩ := HC.out (q + 1) (by have := HL2.out; omega)
      cases e'
      rw [hq, (flatP_get hx).1, ← hq] at p0
      rw [hq, (flatP_get hx).2, ← hq] at p1
      by_cases he : x.1 = n
      · have hb3 : (x.1 == n) = true := by simpa using he
        rw [if_pos he] at hd
        have HD := Lib.hid (HFP.out.trans hd)
        clear hd hx hq he
        go_wp2
        go_ret
        rw [HD.out]
        exact ⟨rfl, rfl⟩
      · have hb3 : (x.1 == n) = false := by simpa using he
        rw [if_neg he] at hd
        have HD := Lib.hid (HFP.out.trans hd)
        clear hd hx hq he
        go_wp2
        go_roundg (gk - 1)
        case measure => omega
        case rel => exact ⟨j + 1, q + 2, by go_num, by have := HQ.out; omega, by omega, HD.out, rfl⟩
    · have g1 : ¬ (q : Int) < (L : Int) := by have := HL2.out; omega
      have HN : Hid (firstP ps n = none) := by show _ = _; rw [HFP.out, List.drop_of_length_le (by omega)]; rfl
      clear hq
      go_wp2
      go_ret
      rw [HN.out]
      exact ⟨rfl, rfl⟩
theorem IRow.two' (w : World) (x y : Int) : IRow (w.alloc (.cells #[.int .i64 x, .int .i64 y] 3)) w.heap.size (.slice (some ⟨w.heap.size, 0, none⟩) 2 2) [x, y] :=
  ⟨⟨rfl, .inr ⟨w.heap.size, 2, #[.int .i64 x, .int .i64 y], rfl, Nat.zero_le _, heap_alloc_new w _, Nat.le_refl _, by unfold maxLen; omega, rfl, rfl⟩⟩, fun k hk => by simp only [Value.ownBlock, Option.some.injEq] at hk; omega⟩
theorem IRow.none' (w : World) : IRow (w.alloc (.cells #[] 3)) w.heap.size (.slice (some ⟨w.heap.size, 0, none⟩) 0 0) [] :=
  ⟨⟨rfl, .inr ⟨w.heap.size, 0, #[], rfl, Nat.zero_le _, heap_alloc_new w _, Nat.le_refl _, by unfold maxLen; omega, rfl, rfl⟩⟩, fun k hk => by simp only [Value.ownBlock, Option.some.injEq] at hk; omega⟩
theorem own_below {w w' : World} {N : Nat} {v v' : Value} (h : OwnStep w v w' v') (hN : N ≤ w.heap.size) (hv : ∀ k, v.ownBlock = some k → N ≤ k) : Below N w w' := h.below hN hv
set_option maxRecDepth 100000 in
theorem refMeet_any (met : List Int) (id : Int) (w : World) (M : Nat) (sv : Value) (hps : met.length ≤ 1000000) (hM : M ≤ w.heap.size) (hm : IRow w M sv (flatP (Gr.pairs met))) :
    Calls Tryz.prog 32 #[sv, .int .i64 id] w fun e w' => ∃ v', e = .returned v' ∧ IRow w' M v' (flatP (Gr.pairs (Gr.meetT met id))) ∧ Below w.heap.size w w' ∧ (v' = sv ∨ ∀ k, v'.ownBlock = some k → w.heap.size ≤ k) := by
  have HNM := Lib.hid (number_any (Gr.pairs met) id w M sv (by rw [Gr.pairs_len]; exact hps) hm)
  obtain ⟨aol, cl, hsv, hcl, _⟩ := hm.form
  obtain ⟨L, hL⟩ : ∃ L, (flatP (Gr.pairs met)).length = L := ⟨_, rfl⟩
  have hL2 : L = 2 * met.length := by rw [← hL, flatP_len, Gr.pairs_len]
  rw [hL] at hsv
  subst hsv
  have HM := Lib.hid hm
  have HHM := Lib.hid hM
  have HL2 := Lib.hid hL2
  have HLL := Lib.hid hL
  have hN : ((firstP (Gr.pairs met) id).getD 0) = Gr.numOf met id := rfl
  rw [hN] at HNM
  clear hm hM hcl hN hL hL2
  by_cases hin : id ∈ met
  · have hpos := (Gr.numOf_in hin).1
    have HE := Lib.hid (Gr.meetT_in hin)
    generalize Gr.numOf met id = nn at HNM hpos
    clear hin
    go_enter Tryz.func32, Tryz.ntmps32
    go_wp2_with (go_at_call 35; refine HNM.out.mono ?_; rintro e w1 ⟨rfl, rfl⟩)
    go_ret
    exact ⟨_, rfl, by rw [HE.out]; exact HM.out, Below.refl _ _, .inl rfl⟩
  · have hz := Gr.numOf_out hin
    rw [hz] at HNM
    have HE : Hid (flatP (Gr.pairs (Gr.meetT met id)) = flatP (Gr.pairs met) ++ [id, ((met.length : Int) + 1)]) := by
      show _ = _
      rw [Gr.meetT_out hin, Gr.pairs_snoc, flatP_app]
      rfl
    have q1 : ((L : Nat) : Int).tdiv 2 = (met.length : Int) := by rw [Int.tdiv_eq_ediv_of_nonneg (by omega)]; have := HL2.out; omega
    have q2 : ((L : Nat) : Int) / 2 = (met.length : Int) := by have := HL2.out; omega
    have q3 : IntKind.i64.wrap ((met.length : Int) + 1) = (met.length : Int) + 1 := by rw [IntKind.wrap_i64]; omega
    clear hin hz
    go_enter Tryz.func32, Tryz.ntmps32
    go_wp2_with (first
      | (go_at_call 35; refine HNM.out.mono ?_; rintro e w1 ⟨rfl, rfl⟩)
      | (at_builtin; refine wpList_appi (w := w.alloc (.cells #[] 3)) (N := w.heap.size) (M := M) (l := []) (m := flatP (Gr.pairs met)) rfl _ _ rfl rfl (IRow.none' w) rfl (HM.out.below ((Below.refl _ _).alloc (Nat.le_refl _) _)) (by simp) (by rw [HLL.out]; have := HL2.out; simp; omega) ?_; intro v1 w1 hr1 ho1; have hb1 := own_below (N := w.heap.size) ho1 (by simp) (fun k hk => Nat.le_of_eq (Option.some.inj hk)); have hb2 := ((Below.refl _ _).alloc (Nat.le_refl _) (.cells #[] 3)).trans hb1; rw [List.nil_append] at hr1; obtain ⟨a1, c1, e1, _⟩ := hr1.form; rw [HLL.out] at e1; subst e1; have HR1 := Lib.hid hr1; have HB1 := Lib.hid hb2; clear hr1 ho1 hb1 hb2)
      | (at_builtin; refine wpList_appi (w := w1.alloc (.cells #[.int .i64 id, .int .i64 ((met.length : Int) + 1)] 3)) (N := w.heap.size) (M := w1.heap.size) (l := flatP (Gr.pairs met)) (m := [id, (met.length : Int) + 1]) rfl _ _ rfl rfl (HR1.out.below ((Below.refl _ _).alloc (Nat.le_refl _) _)) rfl (IRow.two' w1 _ _) (by have := HB1.out.size; simp; omega) (by rw [HLL.out]; have := HL2.out; simp; omega) ?_; intro v2 w2 hr2 ho2; have hb1 := own_below (N := w.heap.size) ho2 (by have := HB1.out.size; simp; omega) HR1.out.2; have hb2 := (HB1.out.alloc HB1.out.size _).trans hb1; have HR2 := Lib.hid hr2; have HB2 := Lib.hid hb2; clear hr2 ho2 hb1 hb2))
    go_ret
    exact ⟨_, rfl, by rw [HE.out]; exact ⟨HR2.out.1, fun k hk => Nat.le_trans HHM.out (HR2.out.2 k hk)⟩, HB2.out, .inr HR2.out.2⟩
end Go.Proofs.YtenikoecnfbfoaaGreatDoor
/- Layer 8: the program's walk: an object is met. -/
namespace Go.Proofs.YtenikoecnfbfoaaGreatDoor
open Go.RowKit Go.Maps
set_option linter.unusedVariables false
set_option linter.unusedSimpArgs false
open Gr (meetT pairs numOf)

def pws (met : List Int) : List PW := (pairs met).map fun p => pw p.1 p.2
theorem pws_len (met : List Int) : (pws met).length = met.length := by unfold pws; rw [List.length_map, Gr.pairs_len]
theorem pws_snoc (met : List Int) (id : Int) : pws (met ++ [id]) = pws met ++ [pw id ((met.length + 1 : Nat) : Int)] := by unfold pws; rw [Gr.pairs_snoc, List.map_append]; rfl
theorem firstP_snoc (id c j : Int) : ∀ l : List (Int × Int), firstP (l ++ [(id, c)]) j = match firstP l j with
    | some x => some x
    | none => if id = j then some c else none
  | [] => by simp [firstP]
  | x :: l => by
    rw [List.cons_append, firstP, firstP]
    by_cases h : x.1 = j
    · rw [if_pos h, if_pos h]
    · rw [if_neg h, if_neg h]; exact firstP_snoc id c j l
/-- The walk in memory: its block, the block of the numbers that are met, its two rows. -/
structure WkAt (w : World) (N Bw Ba Bm : Nat) (sw sl : Value) (met : List Int) : Prop where
  blk : w.heap[Bw]? = some (.cells #[.map (some Ba), .map (some Bm), sw, sl] 75 (0, 0))
  mp : NMap Tryz.prog 3 3 w Bm met.length (fun j => firstP (pairs met) j)
  wt : IRow w N sw met
  pr : PRow w N sl (pws met)
  wf : ∀ id ∈ met, (Lit.int .i64 id).wf = true
  n0 : N ≤ w.heap.size
  n1 : N ≤ Bw
  n2 : N ≤ Bm
  e1 : Bw ≠ Bm
  e2 : sw.ownBlock ≠ some Bw
  e3 : sw.ownBlock ≠ some Bm
  e4 : sl.ownBlock ≠ some Bw
  e5 : sl.ownBlock ≠ some Bm
  e6 : ∀ k, sw.ownBlock = some k → sl.ownBlock ≠ some k
def wkF (Bw Bm : Nat) (sw sl : Value) : List Nat := Bw :: Bm :: (sw.ownBlock.toList ++ sl.ownBlock.toList)
def WkStep (w w' : World) (Bw Bm : Nat) (sw sl sw' sl' : Value) : Prop :=
  Chg (wkF Bw Bm sw sl) w w' ∧ (∀ k, sw'.ownBlock = some k → sw.ownBlock = some k ∨ w.heap.size ≤ k) ∧ (∀ k, sl'.ownBlock = some k → sl.ownBlock = some k ∨ w.heap.size ≤ k)
theorem WkStep.refl (w : World) (Bw Bm : Nat) (sw sl : Value) : WkStep w w Bw Bm sw sl sw sl := ⟨Chg.refl _ _, fun k hk => .inl hk, fun k hk => .inl hk⟩
theorem WkStep.trans {w w1 w2 : World} {Bw Bm : Nat} {sw sl sw1 sl1 sw2 sl2 : Value} (h : WkStep w w1 Bw Bm sw sl sw1 sl1) (g : WkStep w1 w2 Bw Bm sw1 sl1 sw2 sl2) : WkStep w w2 Bw Bm sw sl sw2 sl2 := by
  obtain ⟨h1, h2, h3⟩ := h
  obtain ⟨g1, g2, g3⟩ := g
  have hs := h1.size
  refine ⟨h1.trans g1 (fun k hk => ?_), fun k hk => ?_, fun k hk => ?_⟩
  · simp only [wkF, List.mem_cons, List.mem_append, Option.mem_toList] at hk ⊢
    rcases hk with e | e | e | e
    · exact .inl (.inl e)
    · exact .inl (.inr (.inl e))
    · rcases h2 k e with e | e
      · exact .inl (.inr (.inr (.inl e)))
      · exact .inr e
    · rcases h3 k e with e | e
      · exact .inl (.inr (.inr (.inr e)))
      · exact .inr e
  · rcases g2 k hk with e | e
    · exact h2 k e
    · exact .inr (by omega)
  · rcases g3 k hk with e | e
    · exact h3 k e
    · exact .inr (by omega)
theorem WkAt.below {w w' : World} {N Bw Ba Bm : Nat} {sw sl : Value} {met : List Int} (h : WkAt w N Bw Ba Bm sw sl met) (hb : Below w.heap.size w w') : WkAt w' N Bw Ba Bm sw sl met :=
  { h with
    blk := (hb.block _ (lt_of_block h.blk)).trans h.blk
    mp := h.mp.chg (below_chg hb) (by simp)
    wt := h.wt.below hb
    pr := h.pr.chg (below_chg hb) (by simp)
    n0 := Nat.le_trans h.n0 hb.size }
theorem WkAt.chg {w w' : World} {N Bw Ba Bm : Nat} {sw sl : Value} {met : List Int} {F : List Nat} (h : WkAt w N Bw Ba Bm sw sl met) (hc : Chg F w w') (hF : ∀ k ∈ wkF Bw Bm sw sl, k ∉ F) : WkAt w' N Bw Ba Bm sw sl met := by
  have hm : ∀ k, k = Bw ∨ k = Bm ∨ sw.ownBlock = some k ∨ sl.ownBlock = some k → k ∉ F := fun k hk => hF k (by simpa [wkF] using hk)
  exact { h with
    blk := (hc.block _ (lt_of_block h.blk) (hm _ (.inl rfl))).trans h.blk
    mp := h.mp.chg hc (hm _ (.inr (.inl rfl)))
    wt := ⟨h.wt.1.chg hc (fun k hk => hm _ (.inr (.inr (.inl hk)))), h.wt.2⟩
    pr := h.pr.chg hc (fun k hk => hm _ (.inr (.inr (.inr hk))))
    n0 := Nat.le_trans h.n0 hc.size }
theorem cells4 {w : World} {b : Nat} {x0 x1 x2 x3 : Value} {T : TypeId} (h : w.heap[b]? = some (.cells #[x0, x1, x2, x3] T (0, 0))) : w.cell? ⟨b, 0, none⟩ = some x0 ∧ w.cell? ⟨b, 1, none⟩ = some x1 ∧ w.cell? ⟨b, 2, none⟩ = some x2 ∧ w.cell? ⟨b, 3, none⟩ = some x3 ∧ (∀ j, w.frozen? ⟨b, j, none⟩ = false) :=
  ⟨by simp [World.cell?, h], by simp [World.cell?, h], by simp [World.cell?, h], by simp [World.cell?, h], fun j => by simp [World.frozen?, h]⟩
theorem wpList_apppG {w : World} {ops : Array Oper} {rest : List Oper} {o : Oper} {a : Act} {Q : Exit → Act → World → Prop} (hgd : o.guard = none) (s x : Operand)
    (ho : o.op = .call { callee := .builtin .append, args := #[s, x], argTypes := #[73, 73] }) {N : Nat} {v : Value} {zs : List PW} {y : PW} (hs : a.eval s = v) (hr : PRow w N v zs) {ad : Addr} {c : Nat} (hx : a.eval x = .slice (some ad) 1 c)
    (hnews : ∀ j u, [Value.int .i64 y.1.1, .int .i64 y.1.2][j]? = some u → w.cell? (ad.add j) = some u) (hN : N ≤ w.heap.size) (h63 : zs.length ≤ 1000000)
    (h : ∀ v' w', PRow w' N v' (zs ++ [y]) → OwnStep w v w' v' → wpList Tryz.prog ops Q rest (a.put o.dst v') w') : wpList Tryz.prog ops Q (o :: rest) a w := by
  refine wpList_plain hgd fun K hK => ?_
  have hw : Region.wanted o (yielded ops a.tmps) = true := by simp [Region.wanted, hgd]
  have := step_appp (ops := ops) (K := K) (Q := Q) (E := True) hgd s x ho hs hr hx hnews hN h63 (fun v' w' h1 h2 => hK _ _ (h v' w' h1 h2))
  rw [if_pos hw] at this
  exact this
def MeetEnd (w : World) (N Bw Ba Bm : Nat) (sw sl : Value) (met : List Int) (e : Ending) (w' : World) : Prop :=
  ∃ sw' sl', e = .returned (.tuple #[]) ∧ WkAt w' N Bw Ba Bm sw' sl' met ∧ WkStep w w' Bw Bm sw sl sw' sl'
set_option maxRecDepth 100000 in
set_option maxHeartbeats 4000000 in
theorem meet_any (w : World) (N Bw Ba Bm : Nat) (sw sl : Value) (met : List Int) (id : Int) (h : WkAt w N Bw Ba Bm sw sl met) (hl : met.length ≤ 500000) (hid : (Lit.int .i64 id).wf = true) :
    Calls Tryz.prog 27 #[.pointer (some ⟨Bw, 0, none⟩), .int .i64 id] w (MeetEnd w N Bw Ba Bm sw sl (meetT met id)) := by
  have hmp := h.mp
  have hlk : ∀ W : World, NMap Tryz.prog 3 3 W Bm met.length (fun j => firstP (pairs met) j) → (Instr.lookup 71 (.map (some Bm)) (.int .i64 id) false).run Tryz.prog W = .ok (.int .i64 (numOf met id)) W := fun W hW => hW.look Tryz.underlying3 Tryz.underlying71 Tryz.underlying3 (by kernel_rfl) hid
  obtain ⟨c0, c1, c2, c3, cf⟩ := cells4 h.blk
  have HH := Lib.hid h
  have HLK := Lib.hid hlk
  have HLE := Lib.hid hl
  have l0 := hlk w hmp
  clear h hmp hlk hl
  by_cases hin : id ∈ met
  · have hp := (Gr.numOf_in hin).1
    have HE := Lib.hid (Gr.meetT_in hin)
    have hz : (numOf met id == 0) = false := by
      rw [beq_eq_false_iff_ne]
      omega
    generalize numOf met id = nn at *
    clear hin HLK
    go_enter Tryz.func27, Tryz.ntmps27
    go_wp2
    refine bodyPost_ret (v := .tuple #[]) (by simp [results, Tryz.results27, go_sem]) rfl ?_
    rw [HE.out]
    exact ⟨sw, sl, rfl, HH.out, WkStep.refl _ _ _ _ _⟩
  · have hz := Gr.numOf_out hin
    rw [hz] at l0
    have HN : Hid (firstP (pairs met) id = none) := Gr.pairsF_none hin
    have HQ : Hid (wrap64 ((met.length : Int) + 1) = (met.length : Int) + 1) := by show _ = _; have := HLE.out; unfold wrap64; omega
    go_enter Tryz.func27, Tryz.ntmps27
    go_wp2
    refine region_tail 11 (by kernel_rfl) (by kernel_rfl) ?_
    simp only [List.take_succ_cons, List.take_zero, List.drop_succ_cons, List.drop_zero]
    have hlen : ∀ ty, (Builtin.len_ #[71] ty #[.map (some Bm)]).run Tryz.prog w.drew = .ok (.int .i64 (met.length : Int)) w.drew := fun ty => (HH.out.mp.chg (F := []) (w' := w.drew) ((Chg.refl [] w).drewN 1) (by simp)).len Tryz.underlying71 ty
    repeat (refine wpStill_step (fun K hK => ?_); go_simp; (try go_bits); (refine hK _ ?_; clear hK K))
    refine wpStill_nil ?_
    refine wpList_update_nmap rfl _ _ _ 71 rfl Tryz.underlying3 Tryz.underlying71 Tryz.underlying3 (HH.out.mp.chg (F := []) (w' := w.drew) ((Chg.refl [] w).drewN 1) (by simp)) (by have := HLE.out; unfold maxLen; omega) rfl id _ HN.out rfl rfl hid (by rw [HQ.out]; exact WalkArith.wf_i64 (by have := HLE.out; omega)) ?_
    intro w1 hm1 hc1
    rw [HQ.out] at hm1
    have hc1 : Chg [Bm] w w1 := ((Chg.refl [Bm] w).drewN 1).trans hc1 (fun k hk => .inl hk)
    have hb1 := (hc1.block Bw (lt_of_block HH.out.blk) (by simpa using HH.out.e1)).trans HH.out.blk
    have hw1 : IRow w1 N sw met := ⟨HH.out.wt.1.chg hc1 (fun k hk e => HH.out.e3 (by simp at e; rw [hk, e])), HH.out.wt.2⟩
    have hp1 : PRow w1 N sl (pws met) := HH.out.pr.chg hc1 (fun k hk e => HH.out.e5 (by simp at e; rw [hk, e]))
    obtain ⟨aw, cw, hsw, _⟩ := hw1.form
    obtain ⟨al, cl, hsl⟩ := hp1.form
    rw [pws_len] at hsl
    subst hsw hsl
    clear c0 c1 c2 c3 cf
    obtain ⟨c0, c1, c2, c3, cf⟩ := cells4 hb1
    have HM1 := Lib.hid hm1
    have HC1 := Lib.hid hc1
    have HB1 := Lib.hid hb1
    have HW1 := Lib.hid hw1
    have HP1 := Lib.hid hp1
    clear hm1 hc1 hb1 hw1 hp1 hlen
    have f1 : ∀ o : Obj, (w1.alloc o).cell? ⟨Bw, 2, none⟩ = some (.slice aw met.length cw) := fun o => (Below.cell ((Below.refl _ _).alloc (Nat.le_refl _) o) (p := ⟨Bw, 2, none⟩) (lt_of_block HB1.out)).trans c2
    go_wp2_with (at_builtin; refine wpList_appi (w := w1.alloc (.cells #[.int .i64 id] 3)) (N := N) (M := w1.heap.size) (v := .slice aw met.length cw) (l := met) (m := [id]) rfl _ _ rfl rfl (HW1.out.below ((Below.refl _ _).alloc (Nat.le_refl _) _)) rfl (IRow.one w1 id) (by have := HC1.out.size; have := HH.out.n0; simp; omega) (by have := HLE.out; simp; omega) ?_; intro v2 w2 hr2 ho2; have hB2 := (ho2.block (by have := lt_of_block HB1.out; simp; omega) HH.out.e2).trans ((Below.heap_alloc _ _ _ (lt_of_block HB1.out)).trans HB1.out); obtain ⟨a2, p2, e2, _⟩ := hr2.form; rw [List.length_append, List.length_singleton] at e2; subst e2; clear c0 c1 c2 c3 cf; obtain ⟨c0, c1, c2, c3, cf⟩ := cells4 hB2; have HR2 := Lib.hid hr2; have HO2 := Lib.hid ho2; have HB2 := Lib.hid hB2; clear hr2 ho2 hB2)
    have hB3 := (hdr4_set (o := 2) (u := .slice a2 (met.length + 1) p2) HB2.out).trans rfl
    have hc3 : Chg [Bw] w2 (w2.setCell ⟨Bw, 2, none⟩ (.slice a2 (met.length + 1) p2)) := (Chg.refl _ _).setCell (.inl (by simp)) _
    generalize w2.setCell ⟨Bw, 2, none⟩ (.slice a2 (met.length + 1) p2) = w3 at hB3 hc3 ⊢
    have hmw : Chg [] w1 (w1.alloc (.cells #[.int .i64 id] 3)) := (Chg.refl _ _).alloc _
    have hpl : ∀ k, (Value.slice al met.length cl).ownBlock = some k → k < w1.heap.size ∧ k ≠ Bw ∧ (Value.slice aw met.length cw).ownBlock ≠ some k := fun k hk => ⟨HP1.out.1.lt hk, fun e => HH.out.e4 (by rw [hk, e]), fun e => HH.out.e6 k e hk⟩
    have hm3 := ((HM1.out.chg hmw (by simp)).chg HO2.out.1 (by have := HH.out.e3; simpa using this)).chg hc3 (by simpa using fun e : Bm = Bw => HH.out.e1 e.symm)
    have hw3 : IRow w3 N (.slice a2 (met.length + 1) p2) (met ++ [id]) := ⟨HR2.out.1.chg hc3 (fun k hk e => by
      simp at e
      subst e
      rcases HO2.out.2 with h | ⟨g, h, hg⟩
      · exact HH.out.e2 (h ▸ hk)
      · rw [hk] at h
        have := lt_of_block HB1.out
        cases h
        simp at hg
        omega), HR2.out.2⟩
    have hp3 : PRow w3 N (.slice al met.length cl) (pws met) := ((HP1.out.chg hmw (by simp)).chg HO2.out.1 (fun k hk => by simpa using (hpl k hk).2.2)).chg hc3 (fun k hk => by simpa using (hpl k hk).2.1)
    have hB3 : w3.heap[Bw]? = some (.cells #[.map (some Ba), .map (some Bm), .slice a2 (met.length + 1) p2, .slice al met.length cl] 75 (0, 0)) := hB3
    have hlk3 : ∀ W : World, NMap Tryz.prog 3 3 W Bm (met.length + 1) (fun j => if j = id then some ((met.length : Int) + 1) else firstP (pairs met) j) → (Instr.lookup 71 (.map (some Bm)) (.int .i64 id) false).run Tryz.prog W = .ok (.int .i64 ((met.length : Int) + 1)) W := fun W hW => by
      have := hW.look (t := 71) Tryz.underlying3 Tryz.underlying71 Tryz.underlying3 (by kernel_rfl) hid
      rw [if_pos rfl] at this
      exact this
    have hs2 : w1.heap.size + 1 ≤ w2.heap.size := by have := HO2.out.1.size; simpa using this
    have hs3 := hc3.size
    clear c0 c1 c2 c3 cf f1
    obtain ⟨c0, c1, c2, c3, cf⟩ := cells4 hB3
    have l3 := hlk3 w3.drew (hm3.chg (F := []) (w' := w3.drew) ((Chg.refl [] w3).drewN 1) (by simp))
    have HLK3 := Lib.hid hlk3
    have HB3 := Lib.hid hB3
    have HM3 := Lib.hid hm3
    have HW3 := Lib.hid hw3
    have HP3 := Lib.hid hp3
    have HC3 := Lib.hid hc3
    have HPL := Lib.hid hpl
    have HS2 := Lib.hid hs2
    have HS3 := Lib.hid hs3
    clear hB3 hm3 hw3 hp3 hc3 hpl hlk3 hmw l0 hs2 hs3
    have hSS : ∀ W, Below w3.heap.size w3 W → W.cell? ⟨Bw, 1, none⟩ = some (.map (some Bm)) ∧ W.cell? ⟨Bw, 3, none⟩ = some (.slice al met.length cl) ∧ (Instr.lookup 71 (.map (some Bm)) (.int .i64 id) false).run Tryz.prog W = .ok (.int .i64 ((met.length : Int) + 1)) W := fun W hW => ⟨(hW.cell (p := ⟨Bw, 1, none⟩) (lt_of_block HB3.out)).trans c1, (hW.cell (p := ⟨Bw, 3, none⟩) (lt_of_block HB3.out)).trans c3, HLK3.out W (HM3.out.chg (F := []) (below_chg hW) (by simp))⟩
    have HSS := Lib.hid hSS
    clear hSS c0 c1 c2 c3 cf l3
    have hB3d : w3.drew.heap[Bw]? = some (.cells #[.map (some Ba), .map (some Bm), .slice a2 (met.length + 1) p2, .slice al met.length cl] 75 (0, 0)) := HB3.out
    have hP3d : PRow (w3.drew.alloc (.cells #[.int .i64 id, .int .i64 ((met.length : Int) + 1)] 110)) N (.slice al met.length cl) (pws met) := (HP3.out.chg (F := []) ((Chg.refl [] w3).drewN 1) (by simp)).chg (F := []) ((Chg.refl [] _).alloc _) (by simp)
    have hpw : (pw id ((met.length + 1 : Nat) : Int)).1 = (id, (met.length : Int) + 1) := pw_val hid (WalkArith.wf_i64 (by have := HLE.out; omega))
    have HB3D := Lib.hid hB3d
    have HP3D := Lib.hid hP3d
    have HPW := Lib.hid hpw
    clear hB3d hP3d hpw
    refine wp_region_lastL (S := (fun w' => w'.cell? ⟨Bw, 1, none⟩ = some (.map (some Bm)) ∧ w'.cell? ⟨Bw, 3, none⟩ = some (.slice al met.length cl) ∧ (Instr.lookup 71 (.map (some Bm)) (.int .i64 id) false).run Tryz.prog w' = .ok (.int .i64 ((met.length : Int) + 1)) w')) (by kernel_rfl) (by simp only [butLast]; rfl) (by simp only [lastOf]; rfl) (by kernel_rfl) (by kernel_rfl) ?_ (fun hHeld => ?_)
    focus exact HSS.out _ (Below.refl _ _).drew
    try simp only [List.size_toArray, List.length_cons, List.length_nil]
    refine wpAnyH_take (i := 0) (v := ?_) rfl (by kernel_rfl) (by kernel_rfl) (by kernel_rfl) (fun _ _ _ h => h) (Or.inl ⟨by rfl, ?_⟩) (by assumption) ?_
    rotate_left
    focus (intro w hSw; (try dsimp only at hSw); go_simp; try with_reducible rfl)
    try simp only [Act.put, List.getElem_toArray, List.getElem_cons_zero, List.getElem_cons_succ, List.setIfInBounds_toArray, List.set_cons_zero, List.set_cons_succ, Nat.zero_add]
    refine wpAnyH_take (i := 1) (v := ?_) rfl (by kernel_rfl) (by kernel_rfl) (by kernel_rfl) (fun _ _ _ h => h) (Or.inl ⟨by rfl, ?_⟩) (by assumption) ?_
    rotate_left
    focus (intro w hSw; (try dsimp only at hSw); go_simp; try with_reducible rfl)
    try simp only [Act.put, List.getElem_toArray, List.getElem_cons_zero, List.getElem_cons_succ, List.setIfInBounds_toArray, List.set_cons_zero, List.set_cons_succ, Nat.zero_add]
    refine wpAnyH_take (i := 2) (v := ?_) rfl (by kernel_rfl) (by kernel_rfl) (by kernel_rfl) (fun _ _ _ h => h) (Or.inl ⟨by rfl, ?_⟩) (by assumption) ?_
    rotate_left
    focus (intro w hSw; (try dsimp only at hSw); go_simp; try with_reducible rfl)
    try simp only [Act.put, List.getElem_toArray, List.getElem_cons_zero, List.getElem_cons_succ, List.setIfInBounds_toArray, List.set_cons_zero, List.set_cons_succ, Nat.zero_add]
    refine wpAnyH_take (i := 3) (v := ?_) rfl (by kernel_rfl) (by kernel_rfl) (by kernel_rfl) (fun _ _ _ h => h) (Or.inl ⟨by rfl, ?_⟩) (by assumption) ?_
    rotate_left
    focus (intro w hSw; (try dsimp only at hSw); go_simp; try with_reducible rfl)
    try simp only [Act.put, List.getElem_toArray, List.getElem_cons_zero, List.getElem_cons_succ, List.setIfInBounds_toArray, List.set_cons_zero, List.set_cons_succ, Nat.zero_add]
    refine wpAnyH_take (i := 4) (v := ?_) rfl (by kernel_rfl) (by kernel_rfl) (by kernel_rfl) (fun _ _ _ h => h) (Or.inl ⟨by rfl, ?_⟩) (by assumption) ?_
    rotate_left
    focus (intro w hSw; (try dsimp only at hSw); go_simp; try with_reducible rfl)
    try simp only [Act.put, List.getElem_toArray, List.getElem_cons_zero, List.getElem_cons_succ, List.setIfInBounds_toArray, List.set_cons_zero, List.set_cons_succ, Nat.zero_add]
    refine wpAnyH_take (i := 5) (v := ?_) rfl (by kernel_rfl) (by kernel_rfl) (by kernel_rfl) (fun _ _ _ h => h) (Or.inl ⟨by rfl, ?_⟩) (by assumption) ?_
    rotate_left
    focus (intro w hSw; (try dsimp only at hSw); go_simp; try with_reducible rfl)
    try simp only [Act.put, List.getElem_toArray, List.getElem_cons_zero, List.getElem_cons_succ, List.setIfInBounds_toArray, List.set_cons_zero, List.set_cons_succ, Nat.zero_add]
    refine wpAnyH_take (i := 6) (v := ?_) rfl (by kernel_rfl) (by kernel_rfl) (by kernel_rfl) (fun _ _ _ h => h) (Or.inl ⟨by rfl, ?_⟩) (by assumption) ?_
    rotate_left
    focus (intro w hSw; (try dsimp only at hSw); go_simp; try with_reducible rfl)
    try simp only [Act.put, List.getElem_toArray, List.getElem_cons_zero, List.getElem_cons_succ, List.setIfInBounds_toArray, List.set_cons_zero, List.set_cons_succ, Nat.zero_add]
    refine wpAnyH_take (i := 7) (v := ?_) rfl (by kernel_rfl) (by kernel_rfl) (by kernel_rfl) (fun _ _ _ h => h) (Or.inl ⟨by rfl, ?_⟩) (by assumption) ?_
    rotate_left
    focus (intro w hSw; (try dsimp only at hSw); go_simp; try with_reducible rfl)
    try simp only [Act.put, List.getElem_toArray, List.getElem_cons_zero, List.getElem_cons_succ, List.setIfInBounds_toArray, List.set_cons_zero, List.set_cons_succ, Nat.zero_add]
    refine wpAnyH_take (i := 8) (v := ?_) rfl (by kernel_rfl) (by kernel_rfl) (by kernel_rfl) (fun _ _ _ h => h) (Or.inl ⟨by rfl, ?_⟩) (by assumption) ?_
    rotate_left
    focus (intro w hSw; (try dsimp only at hSw); go_simp; try with_reducible rfl)
    try simp only [Act.put, List.getElem_toArray, List.getElem_cons_zero, List.getElem_cons_succ, List.setIfInBounds_toArray, List.set_cons_zero, List.set_cons_succ, Nat.zero_add]
    refine wpAnyH_take (i := 9) (v := ?_) rfl (by kernel_rfl) (by kernel_rfl) (by kernel_rfl) (fun _ _ _ h => h) (Or.inl ⟨by rfl, ?_⟩) (by assumption) ?_
    rotate_left
    focus (intro w hSw; (try dsimp only at hSw); go_simp; try with_reducible rfl)
    try simp only [Act.put, List.getElem_toArray, List.getElem_cons_zero, List.getElem_cons_succ, List.setIfInBounds_toArray, List.set_cons_zero, List.set_cons_succ, Nat.zero_add]
    refine wpAnyH_take (i := 10) (v := ?_) rfl (by kernel_rfl) (by kernel_rfl) (by kernel_rfl) (fun _ _ _ h => h) (Or.inl ⟨by rfl, ?_⟩) (by assumption) ?_
    rotate_left
    focus (intro w hSw; (try dsimp only at hSw); go_simp; try with_reducible rfl)
    try simp only [Act.put, List.getElem_toArray, List.getElem_cons_zero, List.getElem_cons_succ, List.setIfInBounds_toArray, List.set_cons_zero, List.set_cons_succ, Nat.zero_add]
    refine wpAnyH_take (i := 11) (v := ?_) rfl (by kernel_rfl) (by kernel_rfl) (by kernel_rfl) (fun _ _ _ h => h) (Or.inl ⟨by rfl, ?_⟩) (by assumption) ?_
    rotate_left
    focus (intro w hSw; (try dsimp only at hSw); go_simp; try with_reducible rfl)
    try simp only [Act.put, List.getElem_toArray, List.getElem_cons_zero, List.getElem_cons_succ, List.setIfInBounds_toArray, List.set_cons_zero, List.set_cons_succ, Nat.zero_add]
    refine wpAnyH_take (i := 12) (v := ?_) rfl (by kernel_rfl) (by kernel_rfl) (by kernel_rfl) (fun _ _ _ h => h) (Or.inl ⟨by rfl, ?_⟩) (by assumption) ?_
    rotate_left
    focus (intro w hSw; (try dsimp only at hSw); go_simp; try with_reducible rfl)
    try simp only [Act.put, List.getElem_toArray, List.getElem_cons_zero, List.getElem_cons_succ, List.setIfInBounds_toArray, List.set_cons_zero, List.set_cons_succ, Nat.zero_add]
    refine wpAnyH_ready (rs := [13]) (by kernel_rfl) (by simp) ?_
    refine (AllReadyH.cons rfl (fun K' hK => ?_) AllReadyH.nil)
    go_simp
    refine hK.out _ _ (HSS.out _ (((Below.refl _ _).drew).alloc (by simp) _)) (fun hHeld => ?_)
    clear hK K'
    try simp only [Act.put, List.getElem_toArray, List.getElem_cons_zero, List.getElem_cons_succ, List.setIfInBounds_toArray, List.set_cons_zero, List.set_cons_succ, Nat.zero_add]
    refine wpAnyH_ready (rs := [14]) (by kernel_rfl) (by simp) ?_
    refine (AllReadyH.cons rfl (fun K' hK => ?_) AllReadyH.nil)
    refine step_appp (w := w3.drew.alloc (.cells #[.int .i64 id, .int .i64 ((met.length : Int) + 1)] 110)) (N := N) (v := .slice al met.length cl) (zs := pws met) (y := pw id ((met.length + 1 : Nat) : Int)) (ad := ⟨w3.heap.size, 0, none⟩) (c := 1) (by rfl) _ _ rfl (by rfl) HP3D.out (by rfl) (by rw [HPW.out]; exact cell_two_new w3.drew _ _ _) (by have := HH.out.n0; have := HC1.out.size; have := HS2.out; have := HS3.out; simp; omega) (by rw [pws_len]; have := HLE.out; omega) ?_
    intro v4 w4 hr4 ho4
    have hB4 := (ho4.block (by have := lt_of_block HB3D.out; simp at this ⊢; omega) HH.out.e4).trans ((Below.heap_alloc _ _ _ (lt_of_block HB3D.out)).trans HB3D.out)
    obtain ⟨a4, p4, e4⟩ := hr4.form
    rw [List.length_append, List.length_singleton, pws_len] at e4
    subst e4
    have hb4 : Below N w3 w4 := (((Below.refl _ _).drew).alloc (by have := HH.out.n0; have := HC1.out.size; have := HS2.out; have := HS3.out; simp; omega) _).trans (ho4.below (by have := HH.out.n0; have := HC1.out.size; have := HS2.out; have := HS3.out; simp; omega) HP3.out.2)
    obtain ⟨c0, c1, c2, c3, cf⟩ := cells4 hB4
    have HR4 := Lib.hid hr4
    have HO4 := Lib.hid ho4
    have HB4 := Lib.hid hB4
    clear hr4 ho4 hB4 hb4
    refine hK.out _ _ (⟨c1, c3, HLK3.out _ (((HM3.out.chg (F := []) ((Chg.refl [] w3).drewN 1) (by simp)).chg (F := []) ((Chg.refl [] _).alloc _) (by simp)).chg HO4.out.1 (by have := HH.out.e5; simpa using this))⟩) (fun hHeld => ?_)
    clear hK K'
    try simp only [Act.put, List.getElem_toArray, List.getElem_cons_zero, List.getElem_cons_succ, List.setIfInBounds_toArray, List.set_cons_zero, List.set_cons_succ, Nat.zero_add]
    refine wpAnyH_take (i := 15) (v := ?_) rfl (by kernel_rfl) (by kernel_rfl) (by kernel_rfl) (fun _ _ _ h => h) (Or.inl ⟨by rfl, ?_⟩) (by assumption) ?_
    rotate_left
    focus (intro w hSw; (try dsimp only at hSw); go_simp; try with_reducible rfl)
    try simp only [Act.put, List.getElem_toArray, List.getElem_cons_zero, List.getElem_cons_succ, List.setIfInBounds_toArray, List.set_cons_zero, List.set_cons_succ, Nat.zero_add]
    refine wpAnyH_take (i := 16) (v := ?_) rfl (by kernel_rfl) (by kernel_rfl) (by kernel_rfl) (fun _ _ _ h => h) (Or.inl ⟨by rfl, ?_⟩) (by assumption) ?_
    rotate_left
    focus (intro w hSw; (try dsimp only at hSw); go_simp; try with_reducible rfl)
    try simp only [Act.put, List.getElem_toArray, List.getElem_cons_zero, List.getElem_cons_succ, List.setIfInBounds_toArray, List.set_cons_zero, List.set_cons_succ, Nat.zero_add]
    refine wpAnyH_done (by kernel_rfl) ?_ _
    show Oper.wp _ _ _ _ _ _
    go_simp
    refine bodyPost_ret (v := .tuple #[]) (by simp [results, Tryz.results27, go_sem]) rfl ?_
    have hmd : Chg [] w3 (w3.drew.alloc (.cells #[.int .i64 id, .int .i64 ((met.length : Int) + 1)] 110)) := ((Chg.refl [] w3).drewN 1).alloc _
    have hB5 := (hdr4_set (o := 3) (u := .slice a4 (met.length + 1) p4) HB4.out).trans rfl
    have hc5 : Chg [Bw] w4 (w4.setCell ⟨Bw, 3, none⟩ (.slice a4 (met.length + 1) p4)) := (Chg.refl _ _).setCell (.inl (by simp)) _
    generalize w4.setCell ⟨Bw, 3, none⟩ (.slice a4 (met.length + 1) p4) = w5 at hB5 hc5 ⊢
    have hmm : meetT met id = met ++ [id] := Gr.meetT_out hin
    have z1 := HC1.out.size
    have z2 := HS2.out
    have z3 := HS3.out
    have z4 : w3.heap.size + 1 ≤ w4.heap.size := by have := HO4.out.1.size; simpa using this
    have o2 : ∀ k, (Value.slice a2 (met.length + 1) p2).ownBlock = some k → (Value.slice aw met.length cw).ownBlock = some k ∨ w.heap.size ≤ k := fun k hk => by
      rcases HO2.out.2 with h | ⟨g, h, hg⟩
      · exact .inl (h ▸ hk)
      · rw [hk] at h; cases h; simp at hg; exact .inr (by omega)
    have o4 : ∀ k, (Value.slice a4 (met.length + 1) p4).ownBlock = some k → (Value.slice al met.length cl).ownBlock = some k ∨ w3.heap.size ≤ k := fun k hk => by
      rcases HO4.out.2 with h | ⟨g, h, hg⟩
      · exact .inl (h ▸ hk)
      · rw [hk] at h; cases h; simp at hg; exact .inr (by omega)
    have o24 : ∀ k, (Value.slice a2 (met.length + 1) p2).ownBlock = some k → (Value.slice al met.length cl).ownBlock ≠ some k := fun k hk e => by
      rcases HO2.out.2 with h | ⟨g, h, hg⟩
      · exact HH.out.e6 k (h ▸ hk) e
      · rw [hk] at h; cases h
        have := (HPL.out k e).1
        simp at hg; omega
    have hbw : Bw < w1.heap.size := lt_of_block HB1.out
    have hbm : Bm < w1.heap.size := HM1.out.lt
    have g1 : Chg (wkF Bw Bm (.slice aw met.length cw) (.slice al met.length cl)) w w1 := HC1.out.mono (by simp [wkF])
    have g2 : Chg (wkF Bw Bm (.slice aw met.length cw) (.slice al met.length cl)) w w2 := (g1.alloc (.cells #[.int .i64 id] 3)).trans HO2.out.1 (fun k hk => .inl (by simp only [wkF, List.mem_cons, List.mem_append]; exact .inr (.inr (.inl hk))))
    have g3 := g2.trans HC3.out (fun k hk => .inl (by simp only [List.mem_singleton] at hk; simp [wkF, hk]))
    have g4 := (g3.trans hmd (fun k hk => by cases hk)).trans HO4.out.1 (fun k hk => .inl (by simp only [wkF, List.mem_cons, List.mem_append]; exact .inr (.inr (.inr hk))))
    have g5 := g4.trans hc5 (fun k hk => .inl (by simp only [List.mem_singleton] at hk; simp [wkF, hk]))
    refine ⟨_, _, rfl, ⟨hB5, ?_, ?_, ?_, ?_, Nat.le_trans HH.out.n0 g5.size, HH.out.n1, HH.out.n2, HH.out.e1, ?_, ?_, ?_, ?_, ?_⟩, g5, o2, fun k hk => (o4 k hk).imp_right (fun h => by omega)⟩
    · have h := ((HM3.out.chg hmd (by simp)).chg HO4.out.1 (by have := HH.out.e5; simpa using this)).chg hc5 (by simpa using fun e : Bm = Bw => HH.out.e1 e.symm)
      rw [hmm, List.length_append, List.length_singleton]
      refine h.congr fun j => ?_
      rw [Gr.pairs_snoc, firstP_snoc]
      by_cases hj : j = id
      · subst hj
        rw [if_pos rfl, HN.out, if_pos rfl]
        rfl
      · rw [if_neg hj, if_neg (fun e => hj e.symm)]
        cases firstP (pairs met) j <;> rfl
    · rw [hmm]
      exact ⟨((HW3.out.1.chg hmd (by simp)).chg HO4.out.1 (fun k hk => by simpa using o24 k hk)).chg hc5 (fun k hk e => by
        simp at e; subst e
        rcases HO2.out.2 with h | ⟨g, h, hg⟩
        · exact HH.out.e2 (h ▸ hk)
        · rw [hk] at h; cases h; simp at hg; omega), HW3.out.2⟩
    · rw [hmm, pws_snoc]
      exact HR4.out.chg hc5 (fun k hk e => by
        simp at e; subst e
        rcases o4 _ hk with h | h
        · exact HH.out.e4 h
        · omega)
    · rw [hmm]
      intro x hx
      rcases List.mem_append.1 hx with h | h
      · exact HH.out.wf x h
      · rw [List.mem_singleton.1 h]; exact hid
    · intro hk
      rcases HO2.out.2 with h | ⟨g, h, hg⟩
      · exact HH.out.e2 (h ▸ hk)
      · rw [hk] at h; cases h; simp at hg; omega
    · intro hk
      rcases HO2.out.2 with h | ⟨g, h, hg⟩
      · exact HH.out.e3 (h ▸ hk)
      · rw [hk] at h; cases h; simp at hg; omega
    · intro hk
      rcases o4 _ hk with h | h
      · exact HH.out.e4 h
      · omega
    · intro hk
      rcases o4 _ hk with h | h
      · exact HH.out.e5 h
      · omega
    · intro k hk e
      rcases o4 k e with h | h
      · exact o24 k hk h
      · have := HW3.out.1.lt hk
        omega
end Go.Proofs.YtenikoecnfbfoaaGreatDoor
