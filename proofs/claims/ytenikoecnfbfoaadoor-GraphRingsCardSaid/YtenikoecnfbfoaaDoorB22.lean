/- Texts of the proof, in build order: Backw, Move3, PRow, MvRef, GrSpec, GrNum, GrMeet, GrRingP, GrRingQ. -/
import Derived.RangeFuncNested
import Derived.RangeFuncBound
import Derived.RangeFuncCalls
import Derived.RangeFuncLeaves
import Derived.RangeFuncBox
import Derived.Shelf.Abstract
import Derived.Shelf.RegionOpen
import Derived.OwnWalkIn
import Derived.TacticsInMore
import Derived.LoopNIn
import Derived.LoopIn
import Derived.Maps.OwnIn
import Derived.Test.YtenikoecnfbfoaaDoorB19
import Derived.Deep.DeepCutAuto
import Derived.Test.YtenikoecnfbfoaaDoorB01
import Derived.Test.YtenikoecnfbfoaaDoorB13
import Derived.Test.YtenikoecnfbfoaaDoorB12
import Derived.Test.YtenikoecnfbfoaaDoorB09
import Derived.Test.YtenikoecnfbfoaaDoorB05
import Derived.Test.YtenikoecnfbfoaaDoorB18
/- A row of pairs, backward: the library's iterator. -/
namespace Go.Proofs.YtenikoecnfbfoaaDoor
open Go.RowKit Go.Shelf Go.Maps
set_option linter.unusedVariables false
attribute [local go_sem] Oper.semAt_some

/-- Two numbers within their range. -/
abbrev PW := { x : Int × Int // (Lit.int .i64 x.1).wf = true ∧ (Lit.int .i64 x.2).wf = true }
/-- The slice value sv holds the pairs zs, in a block below n₀; or it is nil and there are none. -/
def PairsIs (n₀ : Nat) (W : World) (sv : Value) (zs : List PW) : Prop :=
  (sv = .slice none 0 0 ∧ zs = []) ∨ ∃ b off cap, sv = .slice (some ⟨b, off, none⟩) zs.length cap ∧ b < n₀ ∧ ∀ j x, zs[j]? = some x → W.cell? ⟨b, off + j * 2, none⟩ = some (.int .i64 x.1.1) ∧ W.cell? ⟨b, off + j * 2 + 1, none⟩ = some (.int .i64 x.1.2)
theorem PairsIs.below {n₀ : Nat} {A B : World} (h : Below n₀ A B) {sv : Value} {zs : List PW} : PairsIs n₀ A sv zs → PairsIs n₀ B sv zs
  | .inl e => .inl e
  | .inr ⟨b, off, cap, e, hb, hc⟩ => .inr ⟨b, off, cap, e, hb, fun j x hj => ⟨(h.cell (p := ⟨b, off + j * 2, none⟩) hb).trans (hc j x hj).1, (h.cell (p := ⟨b, off + j * 2 + 1, none⟩) hb).trans (hc j x hj).2⟩⟩
def encP (x : Nat × PW) : Array Value := #[.int .i64 (x.1 : Int), .agg #[.int .i64 x.2.1.1, .int .i64 x.2.1.2]]

/-- What a round keeps: what lay below n₀, and the box of the row. -/
def KpB (n₀ Bs : Nat) (A B : World) : Prop := Below n₀ A B ∧ B.heap[Bs]? = A.heap[Bs]?
theorem kpB_t {n₀ Bs : Nat} {A B C : World} (h : KpB n₀ Bs A B) (k : KpB n₀ Bs B C) : KpB n₀ Bs A C := ⟨h.1.trans k.1, k.2.trans h.2⟩
theorem kpB_b {n₀ Bs : Nat} {w : World} (hn : n₀ ≤ w.heap.size) (hB : Bs < w.heap.size) (W : World) (l : Nat) (o o' : Obj) (hl : w.heap.size ≤ l) (h : W.heap[l]? = some o) (h1 : o.isCells = false) (h2 : o.isWalk = false) : KpB n₀ Bs W (W.putObj l o') :=
  ⟨belowK_b hn W l o o' hl h h1 h2, (grownBy_putObj' W l o').block Bs (by have := (Array.getElem?_eq_some_iff.1 h).1; omega) (by simp; omega)⟩
set_option maxRecDepth 100000 in
set_option maxHeartbeats 2000000 in
theorem back1_in (F : Fence) (n : Nat) (h7 : F.fn 35) (hro : F.round = none) (hn : 1 ≤ n) (l Bs n₀ b off len cap : Nat) (zs : List PW) (hlen : zs.length = len) (hreach : len ≤ 1000000) (hb : b < n₀) (J Jx : List (Nat × PW) → World → Prop)
    (hY : ∀ pre x W, J pre W → pre.length < len → YieldAt F (n - 1) Tryd.prog l #[.int .i64 (x.1 : Int), .agg #[.int .i64 x.2.1.1, .int .i64 x.2.1.2]] W fun e W' =>
      (e = .returned (.bool true) ∧ J (pre ++ [x]) W' ∧ KpB n₀ Bs W W') ∨ (e = .returned (.bool false) ∧ Jx (pre ++ [x]) W'))
    (W : World) (hBs : W.cell? ⟨Bs, 0, none⟩ = some (.slice (some ⟨b, off, none⟩) len cap)) (hc : ∀ j x, zs[j]? = some x → W.cell? ⟨b, off + j * 2, none⟩ = some (.int .i64 x.1.1) ∧ W.cell? ⟨b, off + j * 2 + 1, none⟩ = some (.int .i64 x.1.2)) (h0 : J [] W) :
    CallsIn F n Tryd.prog 35 #[.func (.yield l) #[] #[], .pointer (some ⟨Bs, 0, none⟩)] W fun e W' => (∃ v, e = .returned v) ∧
      ((∃ ys : List (Nat × PW), ys.map (·.2) = zs.reverse ∧ J ys W') ∨ (∃ pre, True ∧ Jx pre W')) := by
  refine callsIn_of_wp Tryd.func35 rfl h7 ?_ hro
  simp only [Tryd.ntmps35, List.size_toArray, List.length_cons, List.length_nil, Nat.reduceAdd, Nat.reduceSub, Array.replicate_succ, Array.replicate_zero, List.push_toArray, List.append_toArray, List.nil_append, List.cons_append]
  have hw0 : IntKind.i64.wrap ((len : Int) - 1) = (len : Int) - 1 := by rw [IntKind.wrap_i64]; omega
  gi_wp2
  gi_loopw [3] (fun i wr => ∃ (m : Nat) (pre : List (Nat × PW)), i = .int .i64 ((m : Int) - 1) ∧ m ≤ len ∧ pre.length + m = len ∧ pre.map (·.2) = (zs.drop m).reverse ∧ J pre wr ∧ KpB n₀ Bs W wr)
    (fun i _ => (intOf i + 1).toNat)
  case atStart => exact ⟨len, [], rfl, Nat.le_refl _, by simp, by rw [List.drop_of_length_le (by omega)]; rfl, h0, Below.refl _ _, rfl⟩
  case round =>
    obtain ⟨m, pre, rfl, hm, hpl, hpre, hJs, hnx⟩ := hrel
    have hBs' : wr.cell? ⟨Bs, 0, none⟩ = some (.slice (some ⟨b, off, none⟩) len cap) := by
      rw [← hBs]
      unfold World.cell?
      rw [hnx.2]
    cases m with
    | zero =>
      gi_wp2
      go_end0
      exact ⟨⟨_, rfl⟩, .inl ⟨pre, by rw [hpre, List.drop_zero], hJs⟩⟩
    | succ m =>
      obtain ⟨x, hx⟩ : ∃ x, zs[m]? = some x := ⟨_, List.getElem?_eq_getElem (by omega)⟩
      obtain ⟨fn, tmps, assign, body, hy, hR⟩ := hY pre (m, x) wr hJs (by omega)
      dsimp only at hy
      obtain ⟨c0, c1⟩ := hc m x hx
      replace c0 := (hnx.1.cell (p := ⟨b, off + m * 2, none⟩) hb).trans c0
      replace c1 := (hnx.1.cell (p := ⟨b, off + m * 2 + 1, none⟩) hb).trans c1
      have e1 : (((m + 1 : Nat) : Int) - 1) = (m : Int) := by omega
      rw [e1]
      have i0 : (0 : Int) ≤ (m : Int) := by omega
      have i1 : (m : Int) < (len : Int) := by omega
      have i2 : IntKind.i64.wrap ((m : Int) - 1) = (m : Int) - 1 := by rw [IntKind.wrap_i64]; omega
      have hdr : (zs.drop m).reverse = (zs.drop (m + 1)).reverse ++ [x] := by
        have : zs.drop m = x :: zs.drop (m + 1) := by
          rw [List.drop_eq_getElem_cons (by omega)]; congr 1; exact Option.some.inj ((List.getElem?_eq_getElem (by omega)).symm.trans hx)
        rw [this, List.reverse_cons]
      have HDR := Lib.hid hdr
      have HPRE := Lib.hid hpre
      have HX := Lib.hid hx
      clear hdr hpre hx
      gi_wp2
      refine hR.mono ?_
      rintro e W3 (⟨rfl, hJ3, hk3⟩ | ⟨rfl, hJx3⟩)
      · gi_wp2
        go_roundw
        case rel => exact ⟨m, pre ++ [(m, x)], by go_num, by omega, by rw [List.length_append, List.length_singleton]; omega, by rw [List.map_append, HPRE.out, HDR.out]; rfl, hJ3, kpB_t hnx hk3⟩
        case measure => simp [intOf]
      · gi_wp2
        refine bodyPost_ret (results_none rfl _ _ _) rfl ?_
        exact ⟨⟨_, rfl⟩, .inr ⟨_, trivial, hJx3⟩⟩
set_option maxRecDepth 100000 in
set_option maxHeartbeats 1000000 in
theorem back1_nil_in (F : Fence) (n : Nat) (h7 : F.fn 35) (hro : F.round = none) (l Bs : Nat) (J : List (Nat × PW) → World → Prop) (W : World) (hBs : W.cell? ⟨Bs, 0, none⟩ = some (.slice none 0 0)) (h0 : J [] W) :
    CallsIn F n Tryd.prog 35 #[.func (.yield l) #[] #[], .pointer (some ⟨Bs, 0, none⟩)] W fun e W' => (∃ v, e = .returned v) ∧ J [] W' := by
  refine callsIn_of_wp Tryd.func35 rfl h7 ?_ hro
  simp only [Tryd.ntmps35, List.size_toArray, List.length_cons, List.length_nil, Nat.reduceAdd, Nat.reduceSub, Array.replicate_succ, Array.replicate_zero, List.push_toArray, List.append_toArray, List.nil_append, List.cons_append]
  gi_wp2
  gi_loopw [3] (fun i wr => i = .int .i64 (-1) ∧ J [] wr) (fun _ _ => 0)
  case atStart => exact ⟨rfl, h0⟩
  case round =>
    obtain ⟨rfl, hJs⟩ := hrel
    gi_wp2
    go_end0
    exact ⟨⟨_, rfl⟩, hJs⟩
set_option maxRecDepth 100000 in
set_option maxHeartbeats 1000000 in
theorem backward_in (F : Fence) (n : Nat) (h5 : F.fn 25) (hro : F.round = none) (a : Option Addr) (len cap : Nat) (w : World) :
    CallsIn F n Tryd.prog 25 #[.slice a len cap] w fun e w' => e = .returned (.func (.func 35) #[] #[.pointer (some ⟨w.heap.size, 0, none⟩)]) ∧ w' = w.alloc (.cells #[.slice a len cap] 46) := by
  refine callsIn_of_wp Tryd.func25 rfl h5 ?_ hro
  simp only [Tryd.ntmps25, List.size_toArray, List.length_cons, List.length_nil, Nat.reduceAdd, Nat.reduceSub, Array.replicate_succ, Array.replicate_zero, List.push_toArray, List.append_toArray, List.nil_append, List.cons_append]
  gi_wp2
  go_ret
  exact ⟨rfl, rfl⟩
end Go.Proofs.YtenikoecnfbfoaaDoor
/- The program's Move: its map out of a row of pairs, from the last to the first. -/
namespace Go.Proofs.YtenikoecnfbfoaaDoor
open Go.RowKit Go.Shelf Go.Maps Wr
set_option linter.unusedVariables false
attribute [local go_sem] Oper.semAt_some

theorem back_stops (F : Fence) (n : Nat) (h7 : F.fn 35) (hro : F.round = none) (hn : 1 ≤ n) (Bs n₀ : Nat) (sv : Value) (zs : List PW) (hreach : zs.length ≤ 1000000) (w : World) (hBs : Bs < w.heap.size) (hn₀ : n₀ ≤ w.heap.size)
    (hc : w.cell? ⟨Bs, 0, none⟩ = some sv) (hI : PairsIs n₀ w sv zs) :
    SeqStopsK F n Tryd.prog 35 #[.pointer (some ⟨Bs, 0, none⟩)] encP (KpB n₀ Bs) (fun ys => ys.map (·.2) = zs.reverse) (fun _ => True) zs.length w := fun l J Jx W hW _ _ hY h0 => by
  have hc' := (hW.cell (p := ⟨Bs, 0, none⟩) hBs).trans hc
  rcases hI.below (hW.mono hn₀) with ⟨rfl, rfl⟩ | ⟨b, off, cap, rfl, hb, hcs⟩
  · exact (back1_nil_in F n h7 hro l Bs J W hc' h0).mono fun e W' ⟨he, hj⟩ => ⟨he, .inl ⟨_, rfl, hj⟩⟩
  · exact back1_in F n h7 hro hn l Bs n₀ b off zs.length cap zs rfl hreach hb J Jx hY W hc' hcs h0

def upd (f : Int → Option Int) (x : PW) : Int → Option Int := fun j => if j = x.1.1 then some x.1.2 else f j
def asg (ps : List PW) : Int → Option Int := ps.foldl upd (fun _ => none)
theorem asg_snoc (ps : List PW) (x : PW) : asg (ps ++ [x]) = upd (asg ps) x := by simp [asg]
theorem asg_wf : ∀ (ps : List PW) (f : Int → Option Int), (∀ a c, f a = some c → (Lit.int .i64 c).wf = true) → ∀ a c, ps.foldl upd f a = some c → (Lit.int .i64 c).wf = true
  | [], f, h, a, c, e => h a c e
  | x :: ps, f, h, a, c, e => by
    refine asg_wf ps (upd f x) (fun a c e => ?_) a c e
    unfold upd at e
    split at e
    · cases e; exact x.2.2
    · exact h a c e
/-- The first pair of that number. -/
def firstOf (zs : List PW) : Int → Option Int := asg zs.reverse

def MvI (w : World) (V : Array Value) (sv : Value) (pre : List (Nat × PW)) (W : World) : Prop :=
  W.heap[w.heap.size]? = some (.cells V 26 (0, 0)) ∧ W.heap[w.heap.size + 1]? = some Z4 ∧ W.heap[w.heap.size + 1 + 1 + 1]? = some (.cells #[.map (some (w.heap.size + 1 + 1))] 44 (0, 0)) ∧ W.heap[w.heap.size + 1 + 1 + 1 + 1]? = some (.cells #[sv] 46 (0, 0)) ∧
    IMap Tryd.prog 3 3 W (w.heap.size + 1 + 1) pre.length (asg (pre.map (·.2))) ∧ Below w.heap.size w W

theorem mv_start (w : World) (V : Array Value) (sv : Value) : MvI w V sv [] (((((w.alloc (.cells V 26 (0, 0))).alloc Z4).alloc (.map #[] 0)).alloc (.cells #[.map (some (w.heap.size + 1 + 1))] 44 (0, 0))).alloc (.cells #[sv] 46 (0, 0))) := by
  have hm := IMap.made (P := Tryd.prog) (K := 3) (E := 3) ((w.alloc (.cells V 26 (0, 0))).alloc Z4)
  obtain ⟨w2, hw2⟩ : ∃ w2, w2 = (w.alloc (.cells V 26 (0, 0))).alloc Z4 := ⟨_, rfl⟩
  have z1 : w2.heap[w.heap.size]? = some (.cells V 26 (0, 0)) := by rw [hw2]; exact (Below.heap_alloc _ _ _ (by simp)).trans (World.alloc_heap_new _ _)
  have z2 : w2.heap[w.heap.size + 1]? = some Z4 := by
    rw [hw2]
    have := World.alloc_heap_new (w.alloc (.cells V 26 (0, 0))) Z4
    simpa using this
  have s2 : w2.heap.size = w.heap.size + 1 + 1 := by rw [hw2]; simp
  have b2 : Below w.heap.size w w2 := by rw [hw2]; exact ((Below.refl _ _).alloc (Nat.le_refl _) _).alloc (by simp) _
  rw [← hw2] at hm ⊢
  rw [s2] at hm
  obtain ⟨w3, hw3⟩ : ∃ w3, w3 = w2.alloc (.map #[] 0) := ⟨_, rfl⟩
  rw [← hw3] at hm ⊢
  have s3 : w3.heap.size = w.heap.size + 1 + 1 + 1 := by rw [hw3]; simp [s2]
  have b3 : Below w2.heap.size w2 w3 := by rw [hw3]; exact (Below.refl _ _).alloc (Nat.le_refl _) _
  obtain ⟨w4, hw4⟩ : ∃ w4, w4 = w3.alloc (.cells #[.map (some (w.heap.size + 1 + 1))] 44 (0, 0)) := ⟨_, rfl⟩
  rw [← hw4]
  have s4 : w4.heap.size = w.heap.size + 1 + 1 + 1 + 1 := by rw [hw4]; simp [s3]
  have b4 : Below w3.heap.size w3 w4 := by rw [hw4]; exact (Below.refl _ _).alloc (Nat.le_refl _) _
  have z4 : w4.heap[w.heap.size + 1 + 1 + 1]? = some (.cells #[.map (some (w.heap.size + 1 + 1))] 44 (0, 0)) := by rw [hw4, ← s3]; exact World.alloc_heap_new _ _
  have b5 : Below w4.heap.size w4 (w4.alloc (.cells #[sv] 46 (0, 0))) := (Below.refl _ _).alloc (Nat.le_refl _) _
  have z5 : (w4.alloc (.cells #[sv] 46 (0, 0))).heap[w.heap.size + 1 + 1 + 1 + 1]? = some (.cells #[sv] 46 (0, 0)) := by rw [← s4]; exact World.alloc_heap_new _ _
  have b25 : Below w2.heap.size w2 (w4.alloc (.cells #[sv] 46 (0, 0))) := (b3.trans (b4.mono b3.size)).trans (b5.mono (Nat.le_trans b3.size b4.size))
  have b35 : Below w3.heap.size w3 (w4.alloc (.cells #[sv] 46 (0, 0))) := b4.trans (b5.mono b4.size)
  exact ⟨(b25.block _ (lt_of_block z1)).trans z1, (b25.block _ (lt_of_block z2)).trans z2, (b5.block _ (lt_of_block z4)).trans z4, z5, hm.chg (below_chg b35) (by simp), b2.trans (b25.mono b2.size)⟩
theorem mv_chg {w W W' : World} {V : Array Value} {sv : Value} {pre : List (Nat × PW)} {F : List Nat} (h : MvI w V sv pre W) (hc : Chg F W W') (hF : ∀ k ∈ F, w.heap.size + 1 + 1 + 1 + 1 < k) : MvI w V sv pre W' := by
  obtain ⟨h1, h2, h3, h4, h5, h6⟩ := h
  exact ⟨(hc.block _ (lt_of_block h1) (fun hm => by have := hF _ hm; omega)).trans h1, (hc.block _ (lt_of_block h2) (fun hm => by have := hF _ hm; omega)).trans h2, (hc.block _ (lt_of_block h3) (fun hm => by have := hF _ hm; omega)).trans h3, (hc.block _ (lt_of_block h4) (fun hm => by have := hF _ hm; omega)).trans h4, h5.chg hc (fun hm => by have := hF _ hm; omega), h6.trans (hc.below h6.size (fun k hk => by have := hF k hk; omega))⟩
theorem mv_round {w W W' : World} {V : Array Value} {sv : Value} {pre : List (Nat × PW)} {x : Nat × PW} (h : MvI w V sv pre W) (hc : Chg [w.heap.size + 1 + 1] W W') (hm : IMap Tryd.prog 3 3 W' (w.heap.size + 1 + 1) (pre.length + 1) (upd (asg (pre.map (·.2))) x.2)) : MvI w V sv (pre ++ [x]) W' := by
  obtain ⟨h1, h2, h3, h4, h5, h6⟩ := h
  refine ⟨(hc.block _ (lt_of_block h1) (by simp only [List.mem_singleton]; omega)).trans h1, (hc.block _ (lt_of_block h2) (by simp only [List.mem_singleton]; omega)).trans h2, (hc.block _ (lt_of_block h3) (by simp only [List.mem_singleton]; omega)).trans h3, (hc.block _ (lt_of_block h4) (by simp only [List.mem_singleton]; omega)).trans h4, ?_, h6.trans (hc.below h6.size (by intro k hk; simp at hk; omega))⟩
  rw [List.length_append, List.length_singleton, List.map_append, List.map_cons, List.map_nil, asg_snoc]
  exact hm
theorem mv_own {w W0 A B : World} {V : Array Value} {sv : Value} {pre : List (Nat × PW)} {row : Option Nat} (h0 : W0.heap.size = w.heap.size + 1 + 1 + 1 + 1 + 1) (h : MvI w V sv pre A) (hg : A.grownBy B row) (hr : ∀ r, row = some r → W0.heap.size ≤ r) : MvI w V sv pre B :=
  mv_chg h ((Chg.refl row.toList A).grown hg (fun k hk => .inl (by simp [hk]))) (fun k hk => by have := hr k (by simpa using hk); omega)
set_option maxRecDepth 100000 in
set_option maxHeartbeats 2000000 in
theorem move_any (t : VT) (v : Value) (w : World) (P : Nat → Prop) (sv : Value) (zs : List PW) (hsz : t.sz ≤ 100000) (ht : ValIs w P t v) (hP : ∀ b, P b → b < w.heap.size) (hz : zs.length ≤ 1000000) (hps : PairsIs w.heap.size w sv zs) (hsv : ∃ ao n c, sv = .slice ao n c) :
    Calls Tryd.prog 13 #[v, sv] w (MoveEnd w P (t.move (firstOf zs))) := by
  have HT := Lib.hid ht
  have HP := Lib.hid hP
  have HPS := Lib.hid hps
  have HZ := Lib.hid hz
  obtain ⟨ka, na, sa, la⟩ := t
  have ht0 := ht
  unfold ValIs at ht
  obtain ⟨ao, cap, rfl, _⟩ := ht
  obtain ⟨aos, ns, cs, rfl⟩ := hsv
  clear ht0 hps hP hz
  have hmm := @run_makeMap Tryd.prog
  refine (callsIn_wide (n := 6)).1 ?_
  refine callsIn_of_wp_marks Tryd.func13 rfl trivial ?_ rfl
  simp only [Tryd.ntmps13, List.size_toArray, List.length_cons, List.length_nil, Nat.reduceAdd, Nat.reduceSub, Array.replicate_succ, Array.replicate_zero, List.push_toArray, List.append_toArray, List.nil_append, List.cons_append]
  gi_wp2_with (refine ⟨trivial, ?_⟩; gi_at_call 25; refine (backward_in Fence.wide _ trivial rfl _ _ _ _).mono ?_; rintro e w' ⟨rfl, rfl⟩)
  have h0 : MvI w #[.int .i64 ka, .int .i64 na, .string sa, .slice ao la.length cap] (.slice aos ns cs) [] (((((w.alloc (.cells #[.int .i64 ka, .int .i64 na, .string sa, .slice ao la.length cap] 26 (0, 0))).alloc Z4).alloc (.map #[] 0)).alloc (.cells #[.map (some (w.heap.size + 1 + 1))] 44 (0, 0))).alloc (.cells #[.slice aos ns cs] 46 (0, 0))) := mv_start w #[.int .i64 ka, .int .i64 na, .string sa, .slice ao la.length cap] (.slice aos ns cs)
  have hsz0 : (((((w.alloc (.cells #[.int .i64 ka, .int .i64 na, .string sa, .slice ao la.length cap] 26 (0, 0))).alloc Z4).alloc (.map #[] 0)).alloc (.cells #[.map (some (w.heap.size + 1 + 1))] 44 (0, 0))).alloc (.cells #[.slice aos ns cs] 46 (0, 0))).heap.size = w.heap.size + 1 + 1 + 1 + 1 + 1 := by simp
  obtain ⟨W0, hW0⟩ : ∃ W0, W0 = (((((w.alloc (.cells #[.int .i64 ka, .int .i64 na, .string sa, .slice ao la.length cap] 26 (0, 0))).alloc Z4).alloc (.map #[] 0)).alloc (.cells #[.map (some (w.heap.size + 1 + 1))] 44 (0, 0))).alloc (.cells #[.slice aos ns cs] 46 (0, 0))) := ⟨_, rfl⟩
  rw [← hW0] at h0 hsz0 ⊢
  clear hW0
  have H0 := Lib.hid h0
  refine wpIn_rangeFunc_ownH rfl (by omega) (gf := 35) (lb := #[.pointer (some ⟨w.heap.size + 1 + 1 + 1 + 1, 0, none⟩)]) rfl trivial (enters_of Tryd.func35 (by kernel_rfl) rfl)
    (back_stops Fence.wide _ trivial rfl (by omega) (w.heap.size + 1 + 1 + 1 + 1) w.heap.size (.slice aos ns cs) zs HZ.out W0 (by omega) (by omega) (by simp [World.cell?, h0.2.2.2.1]) (HPS.out.below h0.2.2.2.2.2)) kpB_t (kpB_b (by omega) (by omega)) (Below.refl _ _) (fun _ => rfl)
    (fun pre W => MvI w #[.int .i64 ka, .int .i64 na, .string sa, .slice ao la.length cap] (.slice aos ns cs) pre W)
    (fun _ _ _ => False)
    (fun pre A B row hs hg hr => mv_own hsz0 hs hg (fun r e => (hr r e).1))
    (fun _ _ _ _ _ hs _ _ => hs)
    h0
    (fun x a' W => ∃ Bx, W0.heap.size ≤ Bx ∧ W.heap[Bx]? = some (.cells #[.int .i64 x.2.1.1, .int .i64 x.2.1.2] 75 (0, 0)) ∧ a' = { tmps := #[.agg #[.int .i64 ka, .int .i64 na, .string sa, .slice ao la.length cap], .slice aos ns cs, .pointer (some ⟨w.heap.size, 0, none⟩), undef, .pointer (some ⟨w.heap.size + 1, 0, none⟩), .bool false, .pointer (some ⟨w.heap.size + 1 + 1 + 1, 0, none⟩), undef, .pointer (some ⟨Bx, 0, none⟩), .map (some (w.heap.size + 1 + 1)), .slice aos ns cs, .func (.func 35) #[] #[.pointer (some ⟨w.heap.size + 1 + 1 + 1 + 1, 0, none⟩)], .int .i64 (x.1 : Int), .agg #[.int .i64 x.2.1.1, .int .i64 x.2.1.2], undef, undef, undef, undef, undef, undef, undef, undef, undef, undef], defers := [] })
    (fun x a' _ X Y row hs hg hr => by obtain ⟨Bx, h1, h2, h3⟩ := hs; exact ⟨Bx, h1, (hg.block Bx (lt_of_block h2) (fun e => by obtain ⟨_, o, ho, hc⟩ := hr _ e.symm; rw [h2] at ho; cases ho; cases hc)).trans h2, h3⟩)
    ?assign ?body ?done ?stop
  case assign =>
    rintro l pre x W K hI hK
    dsimp only [encP]
    have hW : W0.heap.size ≤ W.heap.size := by have := lt_of_block hI.2.2.2.1; omega
    gi_wp2
    exact hK _ _ ((KeepsOthers.alloc _ _).from _) ⟨(Below.refl _ W).alloc (by omega) _, Below.heap_alloc _ _ _ (by omega)⟩ (mv_chg hI ((Chg.refl [] W).alloc _) (by simp)) ⟨W.heap.size, hW, World.alloc_heap_new _ _, rfl⟩
  case body =>
    rintro l pre x a' W hl ⟨r, hr⟩ hI ⟨Bx, hBx, bX, rfl⟩ hlt
    have HI := Lib.hid hI
    obtain ⟨i1, i2, i3, i4, i5, i6⟩ := hI
    have cm : W.cell? ⟨w.heap.size + 1 + 1 + 1, 0, none⟩ = some (.map (some (w.heap.size + 1 + 1))) := by simp [World.cell?, i3]
    have cx : W.cell? ⟨Bx, 0, none⟩ = some (.int .i64 x.2.1.1) := by simp [World.cell?, bX]
    have cy : W.cell? ⟨Bx, 1, none⟩ = some (.int .i64 x.2.1.2) := by simp [World.cell?, bX]
    obtain ⟨D, hown, hf⟩ := i5
    have HFD := Lib.hid hf
    have hmx : pre.length < maxLen := by have := HZ.out; unfold maxLen; omega
    have HOWN := Lib.hid hown
    clear i1 i2 i3 i4 i6 hf hown bX
    gi_wp2_with (gi_at_mapUpdate; refine wpListIn_mapUpdate_own _ rfl _ _ _ 44 rfl 3 3 (Maps.int_keyed Tryd.underlying3) Tryd.underlying44 _ (w.heap.size + 1 + 1) pre.length D rfl HOWN.out hmx _ _ _ rfl rfl (Maps.keyOf_int_mk Tryd.underlying3 x.2.2.1) _ [] (plainElem_int Tryd.underlying3 x.2.2.2) ?_; intro w1 hown1 hgrow1)
    have hc : Chg [w.heap.size + 1 + 1] W w1 := (Chg.refl _ W).grown hgrow1 (fun k hk => by cases hk; exact .inl (by simp))
    have hb : Below w.heap.size W w1 := hc.below HI.out.2.2.2.2.2.size (by intro k hk; simp at hk; omega)
    refine ⟨KeepsFrom.of_grownBy hgrow1 (fun j e => by cases e; omega), ⟨hb, hc.block _ (lt_of_block HI.out.2.2.2.1) (by simp only [List.mem_singleton]; omega)⟩, ?_⟩
    refine mv_round HI.out hc ⟨_, hown1, fun j => ?_⟩
    rw [mapAt_put (IMap.isMap HOWN.out) ((int_keyed Tryd.underlying3).key (keyOf_int_mk Tryd.underlying3 x.2.2.1)), HFD.out j]
    rfl
  case done =>
    rintro D ys W hD hys hI hK
    have HI := Lib.hid hI
    obtain ⟨i1, i2, i3, i4, i5, i6⟩ := hI
    obtain ⟨v0, v1, v2, v3, v4⟩ := hdr4_cells i1
    obtain ⟨r0, r1, r2, r3, r4⟩ := hdr4_cells i2
    have cm : W.cell? ⟨w.heap.size + 1 + 1 + 1, 0, none⟩ = some (.map (some (w.heap.size + 1 + 1))) := by simp [World.cell?, i3]
    have HKD := Lib.hid hK
    have HD := Lib.hid hD
    have hmv := move_walk (firstOf zs) (w.heap.size + 1 + 1) ys.length (VT.node ka na sa la).sz (VT.node ka na sa la) _ W P (Nat.le_refl _) hsz (HT.out.below i6 HP.out) (fun b hb => Nat.lt_of_lt_of_le (HP.out b hb) i6.size) (by rw [hys] at i5; exact i5) (asg_wf _ _ (fun a c e => by cases e))
    have HM := Lib.hid hmv
    clear hmv i1 i2 i3 i4 i5 i6 hK hD hys
    obtain ⟨r, hr⟩ : ∃ r, VT.move (firstOf zs) (VT.node ka na sa la) = r := ⟨_, rfl⟩
    rw [hr] at HM ⊢
    obtain ⟨u, hu⟩ : ∃ u, r.getD zeroT = u := ⟨_, rfl⟩
    have HU := Lib.hid hu
    have HR := Lib.hid hr
    clear hr hu
    gi_wp2_with (refine ⟨trivial, ?_⟩; gi_at_call 26; refine (callsIn_wide.2 HM.out).mono ?_; rintro e w5 ⟨v5, rfl, hv5, hb5⟩; rw [HU.out] at hv5; obtain ⟨ao5, cap5, rfl⟩ := hv5.form; have z5 := (hb5.block (w.heap.size + 1) (lt_of_block HI.out.2.1)).trans HI.out.2.1; obtain ⟨r0, r1, r2, r3, r4⟩ := hdr4_cells z5; have Z5 := Lib.hid z5; have V5 := Lib.hid hv5; have B5 := Lib.hid hb5; clear hv5 hb5 z5; unfold vval)
    obtain ⟨z1, z2⟩ := four_ret (y0 := .int .i64 u.kind) (y1 := .int .i64 u.num) (y2 := .string u.text) (y3 := .slice ao5 u.kids.length cap5) Z5.out
    generalize ((((World.setCell _ _ _).setCell _ _).setCell _ _).setCell _ _) = wz at z1 z2 ⊢
    have hkd : wz.heap[D]? = some (.deferred (some [])) := (z2.block D (Nat.lt_of_lt_of_le ((Array.getElem?_eq_some_iff.1 HKD.out).1) B5.out.size) (by have := HD.out; simp; omega)).trans ((B5.out.block D (Array.getElem?_eq_some_iff.1 HKD.out).1).trans HKD.out)
    have hcd : Chg [D] wz (wz.putObj D (.deferred none)) := (Chg.refl _ wz).grown (grownBy_putObj' wz D _) (fun k hk => by cases hk; exact .inl (by simp))
    have zd := (hcd.block _ (lt_of_block z1) (by have := HD.out; simp; omega)).trans z1
    refine ⟨by simp, .inl ⟨_, _, rfl, run_takeDeferred hkd, ?_⟩⟩
    obtain ⟨y0, y1, y2, y3, _⟩ := hdr4_cells zd
    refine ⟨.tuple #[vval u ao5 cap5, .bool r.isSome], by simp [results, Tryd.results13, go_sem, y0, y1, y2, y3, vval], ?_⟩
    rw [HR.out]
    have hDW := (Array.getElem?_eq_some_iff.1 HKD.out).1
    have hDl := HD.out
    have hs5 := B5.out.size
    have hq : ∀ b, (P b ∨ W.heap.size ≤ b) → b ≠ w.heap.size + 1 ∧ b ≠ D := fun b hb => by
      rcases hb with h | h
      · have := HP.out b h; omega
      · have := HI.out.2.2.2.2.2.size; have := lt_of_block HI.out.2.1; omega
    refine ⟨_, rfl, ?_, ?_⟩
    · rw [HU.out]
      refine ((V5.out.chg z2 (fun b hb => ⟨hb.2, by simp; exact (hq b hb.1).1⟩)).chg hcd (fun b hb => ⟨Nat.lt_of_lt_of_le hb.2 z2.size, by simp; exact (hq b hb.1).2⟩)).mono (fun b hb => ⟨hb.1.imp id (fun h => Nat.le_trans HI.out.2.2.2.2.2.size h), Nat.lt_of_lt_of_le hb.2 (Nat.le_trans z2.size hcd.size)⟩)
    · have hbw := HI.out.2.2.2.2.2
      refine ((hbw.trans (B5.out.mono hbw.size)).trans (z2.below (Nat.le_trans hbw.size hs5) (by simp))).trans (hcd.below (Nat.le_trans (Nat.le_trans hbw.size hs5) z2.size) (by intro k hk; simp at hk; omega))
  case stop =>
    rintro D c pre W _ _ h _
    exact h.elim
end Go.Proofs.YtenikoecnfbfoaaDoor
/- Rows of pairs that grow; numbers that are moved by a distance. -/
namespace Go.Proofs.YtenikoecnfbfoaaDoor
open Go.RowKit Go.Maps Wr
set_option linter.unusedVariables false

set_option maxRecDepth 100000 in
theorem infoP : (Tryd.prog.info? 75).map (fun i => (i.zero, i.size, i.bytes)) = some (some (.agg #[.int .i64 0, .int .i64 0]), 2, 16) := by kernel_rfl
def pcells : List PW → List Value
  | [] => []
  | x :: l => .int .i64 x.1.1 :: .int .i64 x.1.2 :: pcells l
theorem pcells_length : ∀ l : List PW, (pcells l).length = l.length * 2
  | [] => rfl
  | x :: l => by rw [pcells, List.length_cons, List.length_cons, pcells_length l, List.length_cons]; omega
theorem pcells_get : ∀ {l : List PW} {j : Nat} {x : PW}, l[j]? = some x → (pcells l)[j * 2]? = some (.int .i64 x.1.1) ∧ (pcells l)[j * 2 + 1]? = some (.int .i64 x.1.2)
  | [], _, _, h => by cases h
  | y :: l, 0, x, h => by rw [List.getElem?_cons_zero] at h; cases h; exact ⟨rfl, rfl⟩
  | y :: l, j + 1, x, h => by
    rw [List.getElem?_cons_succ] at h
    obtain ⟨h1, h2⟩ := pcells_get h
    rw [pcells, show (j + 1) * 2 = j * 2 + 1 + 1 by omega, List.getElem?_cons_succ, List.getElem?_cons_succ, show j * 2 + 1 + 1 + 1 = j * 2 + 1 + 1 + 1 from rfl, List.getElem?_cons_succ, List.getElem?_cons_succ]
    exact ⟨h1, h2⟩
theorem pcells_snoc : ∀ (l : List PW) (x : PW), pcells (l ++ [x]) = pcells l ++ [.int .i64 x.1.1, .int .i64 x.1.2]
  | [], x => rfl
  | y :: l, x => by rw [List.cons_append, pcells, pcells, pcells_snoc l x]; rfl
/-- A row of pairs of its own, in blocks from N on. -/
def PRow (w : World) (N : Nat) (v : Value) (zs : List PW) : Prop := RowZ w 75 2 v zs.length (pcells zs) ∧ ∀ k, v.ownBlock = some k → N ≤ k
theorem PRow.nil (w : World) (N : Nat) : PRow w N (.slice none 0 0) [] := ⟨RowZ.nil _ _ _, fun k h => by simp [Value.ownBlock] at h⟩
theorem PRow.chg {F : List Nat} {w w' : World} {N : Nat} {v : Value} {zs : List PW} (h : PRow w N v zs) (hc : Chg F w w') (hF : ∀ k, v.ownBlock = some k → k ∉ F) : PRow w' N v zs := ⟨h.1.chg hc hF, h.2⟩
theorem PRow.form {w : World} {N : Nat} {v : Value} {zs : List PW} (h : PRow w N v zs) : ∃ ao cap, v = .slice ao zs.length cap := by
  obtain ⟨ao, cap, e, _⟩ := h.1.form
  exact ⟨ao, cap, e⟩
theorem PRow.is {w : World} {N : Nat} {v : Value} {zs : List PW} (h : PRow w N v zs) : PairsIs w.heap.size w v zs := by
  rcases h.1.2 with ⟨rfl, hn⟩ | ⟨g, cap, cur, rfl, _, hg, _⟩
  · exact .inl ⟨rfl, List.length_eq_zero_iff.1 hn⟩
  · refine .inr ⟨g, 0, cap, rfl, (Array.getElem?_eq_some_iff.1 hg).1, fun j x hj => ?_⟩
    have hl := (List.getElem?_eq_some_iff.1 hj).1
    have hlen := pcells_length zs
    obtain ⟨e1, e2⟩ := pcells_get hj
    refine ⟨?_, ?_⟩
    · rw [Nat.zero_add, h.1.cellAt _ (by rw [hlen]; omega)]; exact e1
    · rw [Nat.zero_add, h.1.cellAt _ (by rw [hlen]; omega)]; exact e2
theorem cell_two_new (w : World) (a b : Value) (t : TypeId) : ∀ (j : Nat) (u : Value), [a, b][j]? = some u → (w.alloc (.cells #[a, b] t)).cell? (Addr.add ⟨w.heap.size, 0, none⟩ j) = some u := by
  intro j u hj
  have hb := heap_alloc_new w (.cells #[a, b] t)
  rw [show (Addr.add ⟨w.heap.size, 0, none⟩ j) = ⟨w.heap.size, j, none⟩ by unfold Addr.add; split <;> simp_all]
  have hj2 := (List.getElem?_eq_some_iff.1 hj).1
  simp at hj2
  have : j = 0 ∨ j = 1 := by omega
  rcases this with rfl | rfl
  · simp at hj; subst hj; unfold World.cell?; rw [hb]; rfl
  · simp at hj; subst hj; unfold World.cell?; rw [hb]; rfl
/-- 'append(l, p)' of one pair, at a step of a region that draws its order. -/
theorem step_appp {w : World} {ops : Array Oper} {o : Oper} {a : Act} {K : Act → World → Prop} {Q : Exit → Act → World → Prop} {E : Prop} (hgd : o.guard = none) (s x : Operand)
    (ho : o.op = .call { callee := .builtin .append, args := #[s, x], argTypes := #[46, 46] }) {N : Nat} {v : Value} {zs : List PW} {y : PW} (hs : a.eval s = v) (hr : PRow w N v zs) {ad : Addr} {c : Nat} (hx : a.eval x = .slice (some ad) 1 c)
    (hnews : ∀ j u, [Value.int .i64 y.1.1, .int .i64 y.1.2][j]? = some u → w.cell? (ad.add j) = some u) (hN : N ≤ w.heap.size) (h63 : zs.length ≤ 1000000)
    (h : ∀ v' w', PRow w' N v' (zs ++ [y]) → OwnStep w v w' v' → K (a.put o.dst v') w') : if Region.wanted o (yielded ops a.tmps) = true then Oper.wp Tryd.prog o a w K Q else E := by
  obtain ⟨i0, hi, hz0, hz1, hz2⟩ := info_parts infoP
  have hl := pcells_length zs
  have hown : w.ownsRow N 75 2 v zs.length (pcells zs) := by
    refine ⟨hr.1.1, ?_⟩
    rcases hr.1.2 with hn | ⟨g, cap, cur, rfl, _, rest⟩
    · exact .inl hn
    · exact .inr ⟨g, cap, cur, rfl, hr.2 g rfl, rest⟩
  refine step_append_lies w hgd s x 46 ho N 75 i0 _ 2 16 Tryd.underlying46 hi hz0 hz1 hz2 rfl (by decide) v zs.length (pcells zs) hs hown ad 1 c [Value.int .i64 y.1.1, .int .i64 y.1.2] hx rfl hnews (by simp [Value.oneCell']) (by omega) (by unfold maxLen; omega) (by omega) hN w.heap.size rfl ?_
  intro g' cap' w' hown' hgr hloc _
  rw [← pcells_snoc] at hown'
  refine h _ w' ⟨?_, ?_⟩ ⟨(Chg.refl _ w).grown hgr (fun k hk => .inl (by simp [hk])), ?_⟩
  · rw [List.length_append, List.length_singleton]
    refine ⟨hown'.1, ?_⟩
    rcases hown'.2 with hn | ⟨g, cap, cur, e, _, rest⟩
    · exact .inl hn
    · exact .inr ⟨g, cap, cur, e, Nat.zero_le _, rest⟩
  · intro k hk
    simp only [Value.ownBlock, Option.some.injEq] at hk
    subst hk
    rcases hloc with e | e
    · exact hr.2 _ e
    · omega
  · rcases hloc with e | e
    · exact .inl e.symm
    · exact .inr ⟨g', rfl, by omega⟩

/-! Distances -/
namespace VT
mutual
def shift (d : Int) : VT → VT
  | node k n s l => node k (if k = 5 then n + d else n) s (shifts d l)
def shifts (d : Int) : List VT → List VT
  | [] => []
  | t :: l => shift d t :: shifts d l
end
mutual
theorem shift_back (d : Int) : ∀ t : VT, shift (-d) (shift d t) = t
  | node k n s l => by
    rw [shift, shift, shifts_back d l]
    by_cases h : k = 5
    · rw [if_pos h, if_pos h]; congr 1; omega
    · rw [if_neg h, if_neg h]
theorem shifts_back (d : Int) : ∀ l : List VT, shifts (-d) (shifts d l) = l
  | [] => by rw [shifts, shifts]
  | t :: l => by rw [shifts, shifts, shift_back d t, shifts_back d l]
end
mutual
theorem shift_refs (d : Int) : ∀ t : VT, (shift d t).refs = t.refs.map (· + d)
  | node k n s l => by
    rw [shift, refs_node, refs_node, shifts_refs d l, List.map_append]
    by_cases h : k = 5
    · rw [if_pos h, if_pos h, if_pos h]; rfl
    · rw [if_neg h, if_neg h]; rfl
theorem shifts_refs (d : Int) : ∀ l : List VT, refsL (shifts d l) = (refsL l).map (· + d)
  | [] => by rw [shifts, refsL_nil]; rfl
  | t :: l => by rw [shifts, refsL_cons, refsL_cons, shift_refs d t, shifts_refs d l, List.map_append]
end
mutual
theorem shift_sz (d : Int) : ∀ t : VT, (shift d t).sz = t.sz
  | node k n s l => by rw [shift, sz, sz, shifts_sz d l]
theorem shifts_sz (d : Int) : ∀ l : List VT, szs (shifts d l) = szs l
  | [] => by rw [shifts]
  | t :: l => by rw [shifts, szs, szs, shift_sz d t, shifts_sz d l]
end
mutual
theorem move_shift {f : Int → Option Int} {d : Int} : ∀ t : VT, (∀ n ∈ t.refs, f n = some (n + d)) → move f t = some (shift d t)
  | node k n s l, h => by
    rw [refs_node] at h
    have hl := moves_shift l (fun m hm => h m (List.mem_append_right _ hm))
    rw [move, shift]
    by_cases h5 : k = 5
    · rw [if_pos h5] at h
      have hn := h n (List.mem_append_left _ (List.mem_singleton.2 rfl))
      rw [if_pos h5, if_pos h5, hn, hl]
    · rw [if_neg h5, if_neg h5, hl]
theorem moves_shift {f : Int → Option Int} {d : Int} : ∀ l : List VT, (∀ n ∈ refsL l, f n = some (n + d)) → moves f l = some (shifts d l)
  | [], _ => by rw [moves_nil, shifts]
  | t :: l, h => by
    rw [refsL_cons] at h
    have ht := move_shift t (fun m hm => h m (List.mem_append_left _ hm))
    have hl := moves_shift l (fun m hm => h m (List.mem_append_right _ hm))
    rw [moves_some l ht, hl, shifts]
    rfl
end
end VT
theorem fold_upd : ∀ (ps : List PW) (f : Int → Option Int) (n c : Int), (∀ x ∈ ps, x.1.1 = n → x.1.2 = c) → ((∃ x ∈ ps, x.1.1 = n) ∨ f n = some c) → ps.foldl upd f n = some c
  | [], f, n, c, _, h => by
    rcases h with ⟨x, hx, _⟩ | h
    · cases hx
    · exact h
  | x :: ps, f, n, c, ha, h => by
    refine fold_upd ps (upd f x) n c (fun y hy => ha y (List.mem_cons_of_mem _ hy)) ?_
    by_cases hx : n = x.1.1
    · right
      unfold upd
      rw [if_pos hx, ha x (List.mem_cons_self ..) hx.symm]
    · rcases h with ⟨y, hy, he⟩ | h
      · rcases List.mem_cons.1 hy with rfl | hy
        · exact absurd he.symm hx
        · exact .inl ⟨y, hy, he⟩
      · right
        unfold upd
        rw [if_neg hx]
        exact h
theorem first_some {zs : List PW} {n c : Int} (h1 : ∀ x ∈ zs, x.1.1 = n → x.1.2 = c) (h2 : ∃ x ∈ zs, x.1.1 = n) : firstOf zs n = some c := by
  unfold firstOf asg
  obtain ⟨x, hx, he⟩ := h2
  exact fold_upd _ _ n c (fun y hy => h1 y (List.mem_reverse.1 hy)) (.inl ⟨x, List.mem_reverse.2 hx, he⟩)
/-- A pair of these numbers. -/
def pw (a b : Int) : PW := if h : (Lit.int .i64 a).wf = true ∧ (Lit.int .i64 b).wf = true then ⟨(a, b), h⟩ else ⟨(0, 0), by decide, by decide⟩
theorem pw_val {a b : Int} (h1 : (Lit.int .i64 a).wf = true) (h2 : (Lit.int .i64 b).wf = true) : (pw a b).1 = (a, b) := by unfold pw; rw [dif_pos ⟨h1, h2⟩]
theorem IRow.cell {w : World} {N n cap : Nat} {ao : Option Addr} {l : List Int} (h : IRow w N (.slice ao n cap) l) {i : Nat} (hi : i < l.length) : ∃ g, ao = some ⟨g, 0, none⟩ ∧ w.cell? ⟨g, i, none⟩ = some (.int .i64 (l.getD i 0)) := by
  rcases h.1.shape with ⟨e, h0⟩ | ⟨g, c, e, h1, h2, hg⟩
  · have h9 : l.length = 0 := by
      have := congrArg List.length h0
      rw [ivals_length] at this
      exact this
    omega
  · have hr := h.1
    rw [e] at hr
    cases e
    refine ⟨g, rfl, ?_⟩
    rw [hr.cellAt i (by rw [ivals_length]; exact hi)]
    simp [ivals, List.getD, hi]
end Go.Proofs.YtenikoecnfbfoaaDoor
/- The reference's Move: pairs in turn in one list. -/
namespace Go.Proofs.YtenikoecnfbfoaaDoor
open Go.RowKit Go.Maps Wr
set_option linter.unusedVariables false

def firstP : List (Int × Int) → Int → Option Int
  | [], _ => none
  | x :: l, n => if x.1 = n then some x.2 else firstP l n
def flatP : List (Int × Int) → List Int
  | [] => []
  | x :: l => x.1 :: x.2 :: flatP l
theorem flatP_len : ∀ l : List (Int × Int), (flatP l).length = 2 * l.length
  | [] => rfl
  | x :: l => by
    have := flatP_len l
    rw [flatP, List.length_cons, List.length_cons, List.length_cons]; omega
theorem flatP_get : ∀ {l : List (Int × Int)} {j : Nat} {x : Int × Int}, l[j]? = some x → (flatP l).getD (2 * j) 0 = x.1 ∧ (flatP l).getD (2 * j + 1) 0 = x.2
  | [], j, x, h => by cases h
  | y :: l, 0, x, h => by
    rw [List.getElem?_cons_zero] at h
    cases h
    simp [flatP, List.getD]
  | y :: l, j + 1, x, h => by
    rw [List.getElem?_cons_succ] at h
    have := flatP_get h
    rw [flatP, show 2 * (j + 1) = 2 * j + 1 + 1 by omega, List.getD_cons_succ, List.getD_cons_succ, show 2 * j + 1 + 1 + 1 = (2 * j + 1) + 1 + 1 by omega, List.getD_cons_succ, List.getD_cons_succ]
    exact this
theorem firstP_drop {l : List (Int × Int)} {j : Nat} {x : Int × Int} (n : Int) (h : l[j]? = some x) : firstP (l.drop j) n = if x.1 = n then some x.2 else firstP (l.drop (j + 1)) n := by
  have hi := (List.getElem?_eq_some_iff.1 h).1
  rw [List.drop_eq_getElem_cons hi, (List.getElem?_eq_some_iff.1 h).2, firstP]
theorem firstP_wf : ∀ {l : List (Int × Int)} {a c : Int}, (∀ x ∈ l, (Lit.int .i64 x.2).wf = true) → firstP l a = some c → (Lit.int .i64 c).wf = true
  | [], a, c, _, h => by cases h
  | x :: l, a, c, hw, h => by
    rw [firstP] at h
    split at h
    · cases h; exact hw x (by simp)
    · exact firstP_wf (fun y hy => hw y (by simp [hy])) h

def LkLoop (ps : List (Int × Int)) (n : Int) (W2 : World) (gk : Nat) (s6 : Value) (wr : World) : Prop :=
  ∃ j q : Nat, s6 = .int .i64 q ∧ q = 2 * j ∧ j + gk = ps.length ∧ firstP ps n = firstP (ps.drop j) n ∧ Below W2.heap.size W2 wr
def RmLoop (W6 : World) (f : Int → Option Int) (la : List VT) (gk : Nat) (s7 s8 : Value) (wr : World) : Prop :=
  ∃ (i : Nat) (done : List VT), s8 = .int .i64 i ∧ KRow wr W6.heap.size s7 done ∧ done.length = i ∧ i + gk = la.length ∧ VT.moves f la = (VT.moves f (la.drop i)).map (done ++ ·) ∧ Below W6.heap.size W6 wr

end Go.Proofs.YtenikoecnfbfoaaDoor
/- Layer 8 in plain words: directories, graphs. No program in sight. -/
namespace Go.Proofs.YtenikoecnfbfoaaDoor
namespace Gr
set_option linter.unusedVariables false
set_option linter.unusedSimpArgs false

def strV (s : List UInt8) : VT := .node 2 0 (bytes s) []
def refV (n : Int) : VT := .node 5 n ⟨#[]⟩ []
def tupV (r : RT) : VT := .node 4 0 ⟨#[]⟩ [strV r.name, strV r.typ, refV r.id]
def noneV : VT := .node 3 0 ⟨#[]⟩ []
/-- A directory, as a value. -/
def dirV : List RT → VT
  | [] => noneV
  | r :: l => .node 3 1 ⟨#[]⟩ [tupV r, dirV l]
def zeroV : VT := .node 0 0 ⟨#[]⟩ []
def dirT (l : List RT) : VT × Int :=
  if 100 < l.length then (zeroV, 4)
  else match sortO l [] with
    | none => (zeroV, 2)
    | some s => if encErr (dirV s) = 0 then (dirV s, 0) else (zeroV, encErr (dirV s))
def rootOf (a b c : VT) : RT := ⟨a.text.data.toList, b.text.data.toList, c.num⟩
/-- What stands in a value that may be a directory. -/
def gather : Nat → VT → List RT → Option (List RT)
  | 0, _, out => some out
  | f + 1, .node k n s [.node k2 n2 s2 ks, y], out =>
    if k = 3 ∧ n = 1 ∧ out.length ≤ 100 then
      match ks with
      | [a, b, c] => gather f y (out ++ [rootOf a b c])
      | _ => none
    else some out
  | _ + 1, _, out => some out
def rootsT (v : VT) : Option (List RT) :=
  match gather 102 v [] with
  | none => none
  | some out => if (dirT out).2 = 0 ∧ v.same (dirT out).1 = true then some out else none
/-- A number that is met. -/
def meetT (met : List Int) (id : Int) : List Int := if met.contains id then met else met ++ [id]
def pairsF : Nat → List Int → List (Int × Int)
  | _, [] => []
  | k, id :: l => (id, (k : Int)) :: pairsF (k + 1) l
def pairs (met : List Int) : List (Int × Int) := pairsF 1 met
def numOf (met : List Int) (id : Int) : Int := (firstP (pairs met) id).getD 0
def findO (objs : List (Int × VT)) (id : Int) : Option VT := (objs.find? fun o => o.1 == id).map (·.2)
/-- Objects are met, one behind the other; none: one isn't there. -/
def bfs (objs : List (Int × VT)) : Nat → Nat → List Int → List VT → Option (List Int × List VT)
  | 0, _, met, vals => some (met, vals)
  | f + 1, i, met, vals => match met[i]? with
    | none => some (met, vals)
    | some id => match findO objs id with
      | none => none
      | some v => bfs objs f (i + 1) (v.refs.foldl meetT met) (vals ++ [v])
structure GT where
  roots : List RT
  objs : List VT
def makeT (roots : List RT) (objs : List (Int × VT)) : GT × Int :=
  if (dirT roots).2 ≠ 0 then (⟨[], []⟩, (dirT roots).2)
  else if objs.any (fun o => decide (encErr o.2 ≠ 0)) then (⟨[], []⟩, 2)
  else match sortO roots [] with
    | none => (⟨[], []⟩, 2)
    | some s => match bfs objs (objs.length + 1) 0 ((s.map RT.id).foldl meetT []) [] with
      | none => (⟨[], []⟩, 5)
      | some (met, vals) => (⟨s.map fun r => ⟨r.name, r.typ, numOf met r.id⟩, vals.map fun v => (v.move (firstP (pairs met))).getD zeroV⟩, 0)

theorem meetT_mem {met : List Int} {id x : Int} : x ∈ meetT met id ↔ x ∈ met ∨ x = id := by
  unfold meetT
  split
  · rename_i h
    have h : id ∈ met := by simpa using h
    constructor
    · exact .inl
    · rintro (h1 | rfl)
      · exact h1
      · exact h
  · simp
theorem meetT_nodup {met : List Int} {id : Int} (h : met.Nodup) : (meetT met id).Nodup := by
  unfold meetT
  split
  · exact h
  · rename_i hc
    have hc : id ∉ met := by simpa using hc
    rw [List.nodup_append]
    exact ⟨h, by simp, fun a ha b hb e => by simp at hb; subst hb; subst e; exact hc ha⟩
theorem meetT_pre {met : List Int} {id : Int} : met <+: meetT met id := by
  unfold meetT
  split
  · exact List.prefix_refl _
  · exact List.prefix_append _ _
theorem meets_nodup : ∀ {l met : List Int}, met.Nodup → (l.foldl meetT met).Nodup
  | [], _, h => h
  | x :: l, met, h => by rw [List.foldl_cons]; exact meets_nodup (meetT_nodup h)
theorem meets_pre : ∀ {l met : List Int}, met <+: l.foldl meetT met
  | [], _ => List.prefix_refl _
  | x :: l, met => by rw [List.foldl_cons]; exact meetT_pre.trans meets_pre
theorem meets_mem {x : Int} : ∀ {l met : List Int}, x ∈ l.foldl meetT met ↔ x ∈ met ∨ x ∈ l
  | [], _ => by simp
  | y :: l, met => by rw [List.foldl_cons, meets_mem, meetT_mem, List.mem_cons, or_assoc]
theorem findO_mem {objs : List (Int × VT)} {id : Int} {v : VT} (h : findO objs id = some v) : (id, v) ∈ objs := by
  unfold findO at h
  cases hf : objs.find? (fun o => o.1 == id) with
  | none => rw [hf] at h; cases h
  | some o =>
    rw [hf] at h
    cases h
    have h1 := List.mem_of_find?_eq_some hf
    have h2 := List.find?_some hf
    have h2 : o.1 = id := by simpa using h2
    rw [← h2]
    exact h1
theorem nodup_sub : ∀ {a b : List Int}, a.Nodup → a ⊆ b → a.length ≤ b.length
  | [], _, _, _ => by simp
  | x :: a, b, hn, hs => by
    have hc := List.nodup_cons.1 hn
    have hx : x ∈ b := hs (List.mem_cons_self ..)
    have h1 : a ⊆ b.erase x := fun y hy => by
      have hyb : y ∈ b := hs (List.mem_cons_of_mem _ hy)
      have hne : y ≠ x := fun e => hc.1 (e ▸ hy)
      exact (List.mem_erase_of_ne hne).2 hyb
    have := nodup_sub hc.2 h1
    rw [List.length_erase_of_mem hx] at this
    have hpos : 0 < b.length := List.length_pos_of_mem hx
    rw [List.length_cons]
    omega
/-- What has been met and found lies among the objects: so there are no more of them. -/
theorem bfs_bound {objs : List (Int × VT)} {met : List Int} {i : Nat} (hn : met.Nodup) (hi : i ≤ met.length) (h : ∀ j, j < i → ∃ v, findO objs (met.getD j 0) = some v) : i ≤ objs.length := by
  have h1 : (met.take i).Nodup := hn.sublist (List.take_sublist i met)
  have h2 : (met.take i) ⊆ objs.map (·.1) := by
    intro x hx
    obtain ⟨j, hj, rfl⟩ := List.mem_iff_getElem.1 hx
    rw [List.length_take] at hj
    obtain ⟨v, hv⟩ := h j (by omega)
    have hm := findO_mem hv
    rw [List.getElem_take]
    have e : met.getD j 0 = met[j] := by simp [List.getD, show j < met.length by omega]
    rw [e] at hm
    exact List.mem_map.2 ⟨_, hm, rfl⟩
  have h3 := nodup_sub h1 h2
  rw [List.length_take, List.length_map] at h3
  omega
end Gr
end Go.Proofs.YtenikoecnfbfoaaDoor
/- Layer 8: the document's number and meet. -/
namespace Go.Proofs.YtenikoecnfbfoaaDoor
open Go.RowKit
set_option linter.unusedVariables false
set_option linter.unusedSimpArgs false
namespace Gr
theorem pairsF_len : ∀ (l : List Int) (k : Nat), (pairsF k l).length = l.length
  | [], _ => rfl
  | x :: l, k => by rw [pairsF, List.length_cons, pairsF_len l, List.length_cons]
theorem pairs_len (l : List Int) : (pairs l).length = l.length := pairsF_len l 1
theorem pairsF_snoc (x : Int) : ∀ (l : List Int) (k : Nat), pairsF k (l ++ [x]) = pairsF k l ++ [(x, ((k + l.length : Nat) : Int))]
  | [], k => by simp [pairsF]
  | y :: l, k => by
    rw [List.cons_append, pairsF, pairsF_snoc x l, pairsF, List.cons_append, List.length_cons]
    congr 4
    omega
theorem pairs_snoc (l : List Int) (x : Int) : pairs (l ++ [x]) = pairs l ++ [(x, ((l.length + 1 : Nat) : Int))] := by
  unfold pairs
  rw [pairsF_snoc, Nat.add_comm]
theorem pairsF_none {id : Int} : ∀ {l : List Int} {k : Nat}, id ∉ l → firstP (pairsF k l) id = none
  | [], _, _ => rfl
  | x :: l, k, h => by
    rw [pairsF, firstP]
    rw [if_neg (fun e => h (by rw [← e]; exact List.mem_cons_self ..))]
    exact pairsF_none (fun hm => h (List.mem_cons_of_mem _ hm))
theorem pairsF_some {id : Int} : ∀ {l : List Int} {k : Nat}, id ∈ l → ∃ c : Nat, k ≤ c ∧ c < k + l.length ∧ firstP (pairsF k l) id = some (c : Int)
  | [], _, h => by cases h
  | x :: l, k, h => by
    rw [pairsF, firstP]
    by_cases e : x = id
    · rw [if_pos e]
      exact ⟨k, Nat.le_refl _, by simp, rfl⟩
    · rw [if_neg e]
      obtain ⟨c, h1, h2, h3⟩ := pairsF_some (k := k + 1) (List.mem_of_ne_of_mem (fun e' => e e'.symm) h)
      exact ⟨c, by omega, by rw [List.length_cons]; omega, h3⟩
theorem numOf_in {met : List Int} {id : Int} (h : id ∈ met) : 0 < numOf met id ∧ numOf met id ≤ (met.length : Int) := by
  obtain ⟨c, h1, h2, h3⟩ := pairsF_some (k := 1) h
  unfold numOf pairs
  rw [h3]
  show 0 < (c : Int) ∧ (c : Int) ≤ _
  omega
theorem numOf_out {met : List Int} {id : Int} (h : id ∉ met) : numOf met id = 0 := by
  unfold numOf pairs
  rw [pairsF_none h]
  rfl
theorem meetT_in {met : List Int} {id : Int} (h : id ∈ met) : meetT met id = met := by
  unfold meetT
  rw [if_pos (by simpa using h)]
theorem meetT_out {met : List Int} {id : Int} (h : id ∉ met) : meetT met id = met ++ [id] := by
  unfold meetT
  rw [if_neg (by simpa using h)]
theorem meetT_len (met : List Int) (id : Int) : (meetT met id).length ≤ met.length + 1 := by
  unfold meetT
  split <;> simp
theorem meets_len : ∀ (l met : List Int), (l.foldl meetT met).length ≤ met.length + l.length
  | [], met => by simp
  | x :: l, met => by
    have h1 := meets_len l (meetT met x)
    have h2 := meetT_len met x
    rw [List.foldl_cons, List.length_cons]
    omega
end Gr
theorem flatP_app : ∀ (a b : List (Int × Int)), flatP (a ++ b) = flatP a ++ flatP b
  | [], b => rfl
  | x :: a, b => by rw [List.cons_append, flatP, flatP, flatP_app a b]; rfl
def NmLoop (ps : List (Int × Int)) (n : Int) (w : World) (gk : Nat) (s5 : Value) (wr : World) : Prop :=
  ∃ j q : Nat, s5 = .int .i64 q ∧ q = 2 * j ∧ j + gk = ps.length ∧ firstP ps n = firstP (ps.drop j) n ∧ w = wr
/-- A slice of numbers, read. -/
def NumsAt (w : World) (v : Value) (l : List Int) : Prop := ∃ ao cap, v = .slice ao l.length cap ∧ ∀ i, i < l.length → ∃ g, ao = some ⟨g, 0, none⟩ ∧ w.cell? ⟨g, i, none⟩ = some (.int .i64 (l.getD i 0))
theorem IRow.nums {w : World} {N : Nat} {v : Value} {l : List Int} (h : IRow w N v l) : NumsAt w v l := by
  obtain ⟨ao, cap, rfl, _⟩ := h.form
  exact ⟨ao, cap, rfl, fun i hi => h.cell hi⟩
theorem IRow.two' (w : World) (x y : Int) : IRow (w.alloc (.cells #[.int .i64 x, .int .i64 y] 3)) w.heap.size (.slice (some ⟨w.heap.size, 0, none⟩) 2 2) [x, y] :=
  ⟨⟨rfl, .inr ⟨w.heap.size, 2, #[.int .i64 x, .int .i64 y], rfl, Nat.zero_le _, heap_alloc_new w _, Nat.le_refl _, by unfold maxLen; omega, rfl, rfl⟩⟩, fun k hk => by simp only [Value.ownBlock, Option.some.injEq] at hk; omega⟩
theorem IRow.none' (w : World) : IRow (w.alloc (.cells #[] 3)) w.heap.size (.slice (some ⟨w.heap.size, 0, none⟩) 0 0) [] :=
  ⟨⟨rfl, .inr ⟨w.heap.size, 0, #[], rfl, Nat.zero_le _, heap_alloc_new w _, Nat.le_refl _, by unfold maxLen; omega, rfl, rfl⟩⟩, fun k hk => by simp only [Value.ownBlock, Option.some.injEq] at hk; omega⟩
theorem own_below {w w' : World} {N : Nat} {v v' : Value} (h : OwnStep w v w' v') (hN : N ≤ w.heap.size) (hv : ∀ k, v.ownBlock = some k → N ≤ k) : Below N w w' := h.below hN hv
end Go.Proofs.YtenikoecnfbfoaaDoor
/- Layer 8: the program's walk: an object is met. -/
namespace Go.Proofs.YtenikoecnfbfoaaDoor
open Go.RowKit Go.Maps
set_option linter.unusedVariables false
set_option linter.unusedSimpArgs false
open Gr (meetT pairs numOf)

def pws (met : List Int) : List PW := (pairs met).map fun p => pw p.1 p.2
theorem pws_len (met : List Int) : (pws met).length = met.length := by unfold pws; rw [List.length_map, Gr.pairs_len]
theorem pws_snoc (met : List Int) (id : Int) : pws (met ++ [id]) = pws met ++ [pw id ((met.length + 1 : Nat) : Int)] := by unfold pws; rw [Gr.pairs_snoc, List.map_append]; rfl
theorem firstP_snoc (id c j : Int) : ∀ l : List (Int × Int), firstP (l ++ [(id, c)]) j = match firstP l j with
    | some x => some x
    | none => if id = j then some c else none
  | [] => by simp [firstP]
  | x :: l => by
    rw [List.cons_append, firstP, firstP]
    by_cases h : x.1 = j
    · rw [if_pos h, if_pos h]
    · rw [if_neg h, if_neg h]; exact firstP_snoc id c j l
/-- The walk in memory: its block, the block of the numbers that are met, its two rows. -/
structure WkAt (w : World) (N Bw Ba Bm : Nat) (sw sl : Value) (met : List Int) : Prop where
  blk : w.heap[Bw]? = some (.cells #[.map (some Ba), .map (some Bm), sw, sl] 48 (0, 0))
  mp : NMap Tryd.prog 3 3 w Bm met.length (fun j => firstP (pairs met) j)
  wt : IRow w N sw met
  pr : PRow w N sl (pws met)
  wf : ∀ id ∈ met, (Lit.int .i64 id).wf = true
  n0 : N ≤ w.heap.size
  n1 : N ≤ Bw
  n2 : N ≤ Bm
  e1 : Bw ≠ Bm
  e2 : sw.ownBlock ≠ some Bw
  e3 : sw.ownBlock ≠ some Bm
  e4 : sl.ownBlock ≠ some Bw
  e5 : sl.ownBlock ≠ some Bm
  e6 : ∀ k, sw.ownBlock = some k → sl.ownBlock ≠ some k
def wkF (Bw Bm : Nat) (sw sl : Value) : List Nat := Bw :: Bm :: (sw.ownBlock.toList ++ sl.ownBlock.toList)
def WkStep (w w' : World) (Bw Bm : Nat) (sw sl sw' sl' : Value) : Prop :=
  Chg (wkF Bw Bm sw sl) w w' ∧ (∀ k, sw'.ownBlock = some k → sw.ownBlock = some k ∨ w.heap.size ≤ k) ∧ (∀ k, sl'.ownBlock = some k → sl.ownBlock = some k ∨ w.heap.size ≤ k)
theorem WkStep.refl (w : World) (Bw Bm : Nat) (sw sl : Value) : WkStep w w Bw Bm sw sl sw sl := ⟨Chg.refl _ _, fun k hk => .inl hk, fun k hk => .inl hk⟩
theorem WkStep.trans {w w1 w2 : World} {Bw Bm : Nat} {sw sl sw1 sl1 sw2 sl2 : Value} (h : WkStep w w1 Bw Bm sw sl sw1 sl1) (g : WkStep w1 w2 Bw Bm sw1 sl1 sw2 sl2) : WkStep w w2 Bw Bm sw sl sw2 sl2 := by
  obtain ⟨h1, h2, h3⟩ := h
  obtain ⟨g1, g2, g3⟩ := g
  have hs := h1.size
  refine ⟨h1.trans g1 (fun k hk => ?_), fun k hk => ?_, fun k hk => ?_⟩
  · simp only [wkF, List.mem_cons, List.mem_append, Option.mem_toList] at hk ⊢
    rcases hk with e | e | e | e
    · exact .inl (.inl e)
    · exact .inl (.inr (.inl e))
    · rcases h2 k e with e | e
      · exact .inl (.inr (.inr (.inl e)))
      · exact .inr e
    · rcases h3 k e with e | e
      · exact .inl (.inr (.inr (.inr e)))
      · exact .inr e
  · rcases g2 k hk with e | e
    · exact h2 k e
    · exact .inr (by omega)
  · rcases g3 k hk with e | e
    · exact h3 k e
    · exact .inr (by omega)
theorem WkAt.below {w w' : World} {N Bw Ba Bm : Nat} {sw sl : Value} {met : List Int} (h : WkAt w N Bw Ba Bm sw sl met) (hb : Below w.heap.size w w') : WkAt w' N Bw Ba Bm sw sl met :=
  { h with
    blk := (hb.block _ (lt_of_block h.blk)).trans h.blk
    mp := h.mp.chg (below_chg hb) (by simp)
    wt := h.wt.below hb
    pr := h.pr.chg (below_chg hb) (by simp)
    n0 := Nat.le_trans h.n0 hb.size }
theorem WkAt.chg {w w' : World} {N Bw Ba Bm : Nat} {sw sl : Value} {met : List Int} {F : List Nat} (h : WkAt w N Bw Ba Bm sw sl met) (hc : Chg F w w') (hF : ∀ k ∈ wkF Bw Bm sw sl, k ∉ F) : WkAt w' N Bw Ba Bm sw sl met := by
  have hm : ∀ k, k = Bw ∨ k = Bm ∨ sw.ownBlock = some k ∨ sl.ownBlock = some k → k ∉ F := fun k hk => hF k (by simpa [wkF] using hk)
  exact { h with
    blk := (hc.block _ (lt_of_block h.blk) (hm _ (.inl rfl))).trans h.blk
    mp := h.mp.chg hc (hm _ (.inr (.inl rfl)))
    wt := ⟨h.wt.1.chg hc (fun k hk => hm _ (.inr (.inr (.inl hk)))), h.wt.2⟩
    pr := h.pr.chg hc (fun k hk => hm _ (.inr (.inr (.inr hk))))
    n0 := Nat.le_trans h.n0 hc.size }
theorem cells4 {w : World} {b : Nat} {x0 x1 x2 x3 : Value} {T : TypeId} (h : w.heap[b]? = some (.cells #[x0, x1, x2, x3] T (0, 0))) : w.cell? ⟨b, 0, none⟩ = some x0 ∧ w.cell? ⟨b, 1, none⟩ = some x1 ∧ w.cell? ⟨b, 2, none⟩ = some x2 ∧ w.cell? ⟨b, 3, none⟩ = some x3 ∧ (∀ j, w.frozen? ⟨b, j, none⟩ = false) :=
  ⟨by simp [World.cell?, h], by simp [World.cell?, h], by simp [World.cell?, h], by simp [World.cell?, h], fun j => by simp [World.frozen?, h]⟩
theorem wpList_apppG {w : World} {ops : Array Oper} {rest : List Oper} {o : Oper} {a : Act} {Q : Exit → Act → World → Prop} (hgd : o.guard = none) (s x : Operand)
    (ho : o.op = .call { callee := .builtin .append, args := #[s, x], argTypes := #[46, 46] }) {N : Nat} {v : Value} {zs : List PW} {y : PW} (hs : a.eval s = v) (hr : PRow w N v zs) {ad : Addr} {c : Nat} (hx : a.eval x = .slice (some ad) 1 c)
    (hnews : ∀ j u, [Value.int .i64 y.1.1, .int .i64 y.1.2][j]? = some u → w.cell? (ad.add j) = some u) (hN : N ≤ w.heap.size) (h63 : zs.length ≤ 1000000)
    (h : ∀ v' w', PRow w' N v' (zs ++ [y]) → OwnStep w v w' v' → wpList Tryd.prog ops Q rest (a.put o.dst v') w') : wpList Tryd.prog ops Q (o :: rest) a w := by
  refine wpList_plain hgd fun K hK => ?_
  have hw : Region.wanted o (yielded ops a.tmps) = true := by simp [Region.wanted, hgd]
  have := step_appp (ops := ops) (K := K) (Q := Q) (E := True) hgd s x ho hs hr hx hnews hN h63 (fun v' w' h1 h2 => hK _ _ (h v' w' h1 h2))
  rw [if_pos hw] at this
  exact this
def MeetEnd (w : World) (N Bw Ba Bm : Nat) (sw sl : Value) (met : List Int) (e : Ending) (w' : World) : Prop :=
  ∃ sw' sl', e = .returned (.tuple #[]) ∧ WkAt w' N Bw Ba Bm sw' sl' met ∧ WkStep w w' Bw Bm sw sl sw' sl'
set_option maxRecDepth 100000 in
set_option maxHeartbeats 4000000 in
theorem meet_any (w : World) (N Bw Ba Bm : Nat) (sw sl : Value) (met : List Int) (id : Int) (h : WkAt w N Bw Ba Bm sw sl met) (hl : met.length ≤ 500000) (hid : (Lit.int .i64 id).wf = true) :
    Calls Tryd.prog 11 #[.pointer (some ⟨Bw, 0, none⟩), .int .i64 id] w (MeetEnd w N Bw Ba Bm sw sl (meetT met id)) := by
  have hmp := h.mp
  have hlk : ∀ W : World, NMap Tryd.prog 3 3 W Bm met.length (fun j => firstP (pairs met) j) → (Instr.lookup 44 (.map (some Bm)) (.int .i64 id) false).run Tryd.prog W = .ok (.int .i64 (numOf met id)) W := fun W hW => hW.look Tryd.underlying3 Tryd.underlying44 Tryd.underlying3 (by kernel_rfl) hid
  obtain ⟨c0, c1, c2, c3, cf⟩ := cells4 h.blk
  have HH := Lib.hid h
  have HLK := Lib.hid hlk
  have HLE := Lib.hid hl
  have l0 := hlk w hmp
  clear h hmp hlk hl
  by_cases hin : id ∈ met
  · have hp := (Gr.numOf_in hin).1
    have HE := Lib.hid (Gr.meetT_in hin)
    have hz : (numOf met id == 0) = false := by
      rw [beq_eq_false_iff_ne]
      omega
    generalize numOf met id = nn at *
    clear hin HLK
    go_enter Tryd.func11, Tryd.ntmps11
    go_wp2
    refine bodyPost_ret (v := .tuple #[]) (by simp [results, Tryd.results11, go_sem]) rfl ?_
    rw [HE.out]
    exact ⟨sw, sl, rfl, HH.out, WkStep.refl _ _ _ _ _⟩
  · have hz := Gr.numOf_out hin
    rw [hz] at l0
    have HN : Hid (firstP (pairs met) id = none) := Gr.pairsF_none hin
    have HQ : Hid (wrap64 ((met.length : Int) + 1) = (met.length : Int) + 1) := by show _ = _; have := HLE.out; unfold wrap64; omega
    go_enter Tryd.func11, Tryd.ntmps11
    go_wp2
    refine region_tail 11 (by kernel_rfl) (by kernel_rfl) ?_
    simp only [List.take_succ_cons, List.take_zero, List.drop_succ_cons, List.drop_zero]
    have hlen : ∀ ty, (Builtin.len_ #[44] ty #[.map (some Bm)]).run Tryd.prog w.drew = .ok (.int .i64 (met.length : Int)) w.drew := fun ty => (HH.out.mp.chg (F := []) (w' := w.drew) ((Chg.refl [] w).drewN 1) (by simp)).len Tryd.underlying44 ty
    repeat (refine wpStill_step (fun K hK => ?_); go_simp; (try go_bits); (refine hK _ ?_; clear hK K))
    refine wpStill_nil ?_
    refine wpList_update_nmap rfl _ _ _ 44 rfl Tryd.underlying3 Tryd.underlying44 Tryd.underlying3 (HH.out.mp.chg (F := []) (w' := w.drew) ((Chg.refl [] w).drewN 1) (by simp)) (by have := HLE.out; unfold maxLen; omega) rfl id _ HN.out rfl rfl hid (by rw [HQ.out]; exact WalkArith.wf_i64 (by have := HLE.out; omega)) ?_
    intro w1 hm1 hc1
    rw [HQ.out] at hm1
    have hc1 : Chg [Bm] w w1 := ((Chg.refl [Bm] w).drewN 1).trans hc1 (fun k hk => .inl hk)
    have hb1 := (hc1.block Bw (lt_of_block HH.out.blk) (by simpa using HH.out.e1)).trans HH.out.blk
    have hw1 : IRow w1 N sw met := ⟨HH.out.wt.1.chg hc1 (fun k hk e => HH.out.e3 (by simp at e; rw [hk, e])), HH.out.wt.2⟩
    have hp1 : PRow w1 N sl (pws met) := HH.out.pr.chg hc1 (fun k hk e => HH.out.e5 (by simp at e; rw [hk, e]))
    obtain ⟨aw, cw, hsw, _⟩ := hw1.form
    obtain ⟨al, cl, hsl⟩ := hp1.form
    rw [pws_len] at hsl
    subst hsw hsl
    clear c0 c1 c2 c3 cf
    obtain ⟨c0, c1, c2, c3, cf⟩ := cells4 hb1
    have HM1 := Lib.hid hm1
    have HC1 := Lib.hid hc1
    have HB1 := Lib.hid hb1
    have HW1 := Lib.hid hw1
    have HP1 := Lib.hid hp1
    clear hm1 hc1 hb1 hw1 hp1 hlen
    have f1 : ∀ o : Obj, (w1.alloc o).cell? ⟨Bw, 2, none⟩ = some (.slice aw met.length cw) := fun o => (Below.cell ((Below.refl _ _).alloc (Nat.le_refl _) o) (p := ⟨Bw, 2, none⟩) (lt_of_block HB1.out)).trans c2
    go_wp2_with (at_builtin; refine wpList_appi (w := w1.alloc (.cells #[.int .i64 id] 3)) (N := N) (M := w1.heap.size) (v := .slice aw met.length cw) (l := met) (m := [id]) rfl _ _ rfl rfl (HW1.out.below ((Below.refl _ _).alloc (Nat.le_refl _) _)) rfl (IRow.one w1 id) (by have := HC1.out.size; have := HH.out.n0; simp; omega) (by have := HLE.out; simp; omega) ?_; intro v2 w2 hr2 ho2; have hB2 := (ho2.block (by have := lt_of_block HB1.out; simp; omega) HH.out.e2).trans ((Below.heap_alloc _ _ _ (lt_of_block HB1.out)).trans HB1.out); obtain ⟨a2, p2, e2, _⟩ := hr2.form; rw [List.length_append, List.length_singleton] at e2; subst e2; clear c0 c1 c2 c3 cf; obtain ⟨c0, c1, c2, c3, cf⟩ := cells4 hB2; have HR2 := Lib.hid hr2; have HO2 := Lib.hid ho2; have HB2 := Lib.hid hB2; clear hr2 ho2 hB2)
    have hB3 := (hdr4_set (o := 2) (u := .slice a2 (met.length + 1) p2) HB2.out).trans rfl
    have hc3 : Chg [Bw] w2 (w2.setCell ⟨Bw, 2, none⟩ (.slice a2 (met.length + 1) p2)) := (Chg.refl _ _).setCell (.inl (by simp)) _
    generalize w2.setCell ⟨Bw, 2, none⟩ (.slice a2 (met.length + 1) p2) = w3 at hB3 hc3 ⊢
    have hmw : Chg [] w1 (w1.alloc (.cells #[.int .i64 id] 3)) := (Chg.refl _ _).alloc _
    have hpl : ∀ k, (Value.slice al met.length cl).ownBlock = some k → k < w1.heap.size ∧ k ≠ Bw ∧ (Value.slice aw met.length cw).ownBlock ≠ some k := fun k hk => ⟨HP1.out.1.lt hk, fun e => HH.out.e4 (by rw [hk, e]), fun e => HH.out.e6 k e hk⟩
    have hm3 := ((HM1.out.chg hmw (by simp)).chg HO2.out.1 (by have := HH.out.e3; simpa using this)).chg hc3 (by simpa using fun e : Bm = Bw => HH.out.e1 e.symm)
    have hw3 : IRow w3 N (.slice a2 (met.length + 1) p2) (met ++ [id]) := ⟨HR2.out.1.chg hc3 (fun k hk e => by
      simp at e
      subst e
      rcases HO2.out.2 with h | ⟨g, h, hg⟩
      · exact HH.out.e2 (h ▸ hk)
      · rw [hk] at h
        have := lt_of_block HB1.out
        cases h
        simp at hg
        omega), HR2.out.2⟩
    have hp3 : PRow w3 N (.slice al met.length cl) (pws met) := ((HP1.out.chg hmw (by simp)).chg HO2.out.1 (fun k hk => by simpa using (hpl k hk).2.2)).chg hc3 (fun k hk => by simpa using (hpl k hk).2.1)
    have hB3 : w3.heap[Bw]? = some (.cells #[.map (some Ba), .map (some Bm), .slice a2 (met.length + 1) p2, .slice al met.length cl] 48 (0, 0)) := hB3
    have hlk3 : ∀ W : World, NMap Tryd.prog 3 3 W Bm (met.length + 1) (fun j => if j = id then some ((met.length : Int) + 1) else firstP (pairs met) j) → (Instr.lookup 44 (.map (some Bm)) (.int .i64 id) false).run Tryd.prog W = .ok (.int .i64 ((met.length : Int) + 1)) W := fun W hW => by
      have := hW.look (t := 44) Tryd.underlying3 Tryd.underlying44 Tryd.underlying3 (by kernel_rfl) hid
      rw [if_pos rfl] at this
      exact this
    have hs2 : w1.heap.size + 1 ≤ w2.heap.size := by have := HO2.out.1.size; simpa using this
    have hs3 := hc3.size
    clear c0 c1 c2 c3 cf f1
    obtain ⟨c0, c1, c2, c3, cf⟩ := cells4 hB3
    have l3 := hlk3 w3.drew (hm3.chg (F := []) (w' := w3.drew) ((Chg.refl [] w3).drewN 1) (by simp))
    have HLK3 := Lib.hid hlk3
    have HB3 := Lib.hid hB3
    have HM3 := Lib.hid hm3
    have HW3 := Lib.hid hw3
    have HP3 := Lib.hid hp3
    have HC3 := Lib.hid hc3
    have HPL := Lib.hid hpl
    have HS2 := Lib.hid hs2
    have HS3 := Lib.hid hs3
    clear hB3 hm3 hw3 hp3 hc3 hpl hlk3 hmw l0 hs2 hs3
    have hSS : ∀ W, Below w3.heap.size w3 W → W.cell? ⟨Bw, 1, none⟩ = some (.map (some Bm)) ∧ W.cell? ⟨Bw, 3, none⟩ = some (.slice al met.length cl) ∧ (Instr.lookup 44 (.map (some Bm)) (.int .i64 id) false).run Tryd.prog W = .ok (.int .i64 ((met.length : Int) + 1)) W := fun W hW => ⟨(hW.cell (p := ⟨Bw, 1, none⟩) (lt_of_block HB3.out)).trans c1, (hW.cell (p := ⟨Bw, 3, none⟩) (lt_of_block HB3.out)).trans c3, HLK3.out W (HM3.out.chg (F := []) (below_chg hW) (by simp))⟩
    have HSS := Lib.hid hSS
    clear hSS c0 c1 c2 c3 cf l3
    have hB3d : w3.drew.heap[Bw]? = some (.cells #[.map (some Ba), .map (some Bm), .slice a2 (met.length + 1) p2, .slice al met.length cl] 48 (0, 0)) := HB3.out
    have hP3d : PRow (w3.drew.alloc (.cells #[.int .i64 id, .int .i64 ((met.length : Int) + 1)] 75)) N (.slice al met.length cl) (pws met) := (HP3.out.chg (F := []) ((Chg.refl [] w3).drewN 1) (by simp)).chg (F := []) ((Chg.refl [] _).alloc _) (by simp)
    have hpw : (pw id ((met.length + 1 : Nat) : Int)).1 = (id, (met.length : Int) + 1) := pw_val hid (WalkArith.wf_i64 (by have := HLE.out; omega))
    have HB3D := Lib.hid hB3d
    have HP3D := Lib.hid hP3d
    have HPW := Lib.hid hpw
    clear hB3d hP3d hpw
    refine wp_region_lastL (S := (fun w' => w'.cell? ⟨Bw, 1, none⟩ = some (.map (some Bm)) ∧ w'.cell? ⟨Bw, 3, none⟩ = some (.slice al met.length cl) ∧ (Instr.lookup 44 (.map (some Bm)) (.int .i64 id) false).run Tryd.prog w' = .ok (.int .i64 ((met.length : Int) + 1)) w')) (by kernel_rfl) (by simp only [butLast]; rfl) (by simp only [lastOf]; rfl) (by kernel_rfl) (by kernel_rfl) ?_ (fun hHeld => ?_)
    focus exact HSS.out _ (Below.refl _ _).drew
    try simp only [List.size_toArray, List.length_cons, List.length_nil]
    refine wpAnyH_take (i := 0) (v := ?_) rfl (by kernel_rfl) (by kernel_rfl) (by kernel_rfl) (fun _ _ _ h => h) (Or.inl ⟨by rfl, ?_⟩) (by assumption) ?_
    rotate_left
    focus (intro w hSw; (try dsimp only at hSw); go_simp; try with_reducible rfl)
    try simp only [Act.put, List.getElem_toArray, List.getElem_cons_zero, List.getElem_cons_succ, List.setIfInBounds_toArray, List.set_cons_zero, List.set_cons_succ, Nat.zero_add]
    refine wpAnyH_take (i := 1) (v := ?_) rfl (by kernel_rfl) (by kernel_rfl) (by kernel_rfl) (fun _ _ _ h => h) (Or.inl ⟨by rfl, ?_⟩) (by assumption) ?_
    rotate_left
    focus (intro w hSw; (try dsimp only at hSw); go_simp; try with_reducible rfl)
    try simp only [Act.put, List.getElem_toArray, List.getElem_cons_zero, List.getElem_cons_succ, List.setIfInBounds_toArray, List.set_cons_zero, List.set_cons_succ, Nat.zero_add]
    refine wpAnyH_take (i := 2) (v := ?_) rfl (by kernel_rfl) (by kernel_rfl) (by kernel_rfl) (fun _ _ _ h => h) (Or.inl ⟨by rfl, ?_⟩) (by assumption) ?_
    rotate_left
    focus (intro w hSw; (try dsimp only at hSw); go_simp; try with_reducible rfl)
    try simp only [Act.put, List.getElem_toArray, List.getElem_cons_zero, List.getElem_cons_succ, List.setIfInBounds_toArray, List.set_cons_zero, List.set_cons_succ, Nat.zero_add]
    refine wpAnyH_take (i := 3) (v := ?_) rfl (by kernel_rfl) (by kernel_rfl) (by kernel_rfl) (fun _ _ _ h => h) (Or.inl ⟨by rfl, ?_⟩) (by assumption) ?_
    rotate_left
    focus (intro w hSw; (try dsimp only at hSw); go_simp; try with_reducible rfl)
    try simp only [Act.put, List.getElem_toArray, List.getElem_cons_zero, List.getElem_cons_succ, List.setIfInBounds_toArray, List.set_cons_zero, List.set_cons_succ, Nat.zero_add]
    refine wpAnyH_take (i := 4) (v := ?_) rfl (by kernel_rfl) (by kernel_rfl) (by kernel_rfl) (fun _ _ _ h => h) (Or.inl ⟨by rfl, ?_⟩) (by assumption) ?_
    rotate_left
    focus (intro w hSw; (try dsimp only at hSw); go_simp; try with_reducible rfl)
    try simp only [Act.put, List.getElem_toArray, List.getElem_cons_zero, List.getElem_cons_succ, List.setIfInBounds_toArray, List.set_cons_zero, List.set_cons_succ, Nat.zero_add]
    refine wpAnyH_take (i := 5) (v := ?_) rfl (by kernel_rfl) (by kernel_rfl) (by kernel_rfl) (fun _ _ _ h => h) (Or.inl ⟨by rfl, ?_⟩) (by assumption) ?_
    rotate_left
    focus (intro w hSw; (try dsimp only at hSw); go_simp; try with_reducible rfl)
    try simp only [Act.put, List.getElem_toArray, List.getElem_cons_zero, List.getElem_cons_succ, List.setIfInBounds_toArray, List.set_cons_zero, List.set_cons_succ, Nat.zero_add]
    refine wpAnyH_take (i := 6) (v := ?_) rfl (by kernel_rfl) (by kernel_rfl) (by kernel_rfl) (fun _ _ _ h => h) (Or.inl ⟨by rfl, ?_⟩) (by assumption) ?_
    rotate_left
    focus (intro w hSw; (try dsimp only at hSw); go_simp; try with_reducible rfl)
    try simp only [Act.put, List.getElem_toArray, List.getElem_cons_zero, List.getElem_cons_succ, List.setIfInBounds_toArray, List.set_cons_zero, List.set_cons_succ, Nat.zero_add]
    refine wpAnyH_take (i := 7) (v := ?_) rfl (by kernel_rfl) (by kernel_rfl) (by kernel_rfl) (fun _ _ _ h => h) (Or.inl ⟨by rfl, ?_⟩) (by assumption) ?_
    rotate_left
    focus (intro w hSw; (try dsimp only at hSw); go_simp; try with_reducible rfl)
    try simp only [Act.put, List.getElem_toArray, List.getElem_cons_zero, List.getElem_cons_succ, List.setIfInBounds_toArray, List.set_cons_zero, List.set_cons_succ, Nat.zero_add]
    refine wpAnyH_take (i := 8) (v := ?_) rfl (by kernel_rfl) (by kernel_rfl) (by kernel_rfl) (fun _ _ _ h => h) (Or.inl ⟨by rfl, ?_⟩) (by assumption) ?_
    rotate_left
    focus (intro w hSw; (try dsimp only at hSw); go_simp; try with_reducible rfl)
    try simp only [Act.put, List.getElem_toArray, List.getElem_cons_zero, List.getElem_cons_succ, List.setIfInBounds_toArray, List.set_cons_zero, List.set_cons_succ, Nat.zero_add]
    refine wpAnyH_take (i := 9) (v := ?_) rfl (by kernel_rfl) (by kernel_rfl) (by kernel_rfl) (fun _ _ _ h => h) (Or.inl ⟨by rfl, ?_⟩) (by assumption) ?_
    rotate_left
    focus (intro w hSw; (try dsimp only at hSw); go_simp; try with_reducible rfl)
    try simp only [Act.put, List.getElem_toArray, List.getElem_cons_zero, List.getElem_cons_succ, List.setIfInBounds_toArray, List.set_cons_zero, List.set_cons_succ, Nat.zero_add]
    refine wpAnyH_take (i := 10) (v := ?_) rfl (by kernel_rfl) (by kernel_rfl) (by kernel_rfl) (fun _ _ _ h => h) (Or.inl ⟨by rfl, ?_⟩) (by assumption) ?_
    rotate_left
    focus (intro w hSw; (try dsimp only at hSw); go_simp; try with_reducible rfl)
    try simp only [Act.put, List.getElem_toArray, List.getElem_cons_zero, List.getElem_cons_succ, List.setIfInBounds_toArray, List.set_cons_zero, List.set_cons_succ, Nat.zero_add]
    refine wpAnyH_take (i := 11) (v := ?_) rfl (by kernel_rfl) (by kernel_rfl) (by kernel_rfl) (fun _ _ _ h => h) (Or.inl ⟨by rfl, ?_⟩) (by assumption) ?_
    rotate_left
    focus (intro w hSw; (try dsimp only at hSw); go_simp; try with_reducible rfl)
    try simp only [Act.put, List.getElem_toArray, List.getElem_cons_zero, List.getElem_cons_succ, List.setIfInBounds_toArray, List.set_cons_zero, List.set_cons_succ, Nat.zero_add]
    refine wpAnyH_take (i := 12) (v := ?_) rfl (by kernel_rfl) (by kernel_rfl) (by kernel_rfl) (fun _ _ _ h => h) (Or.inl ⟨by rfl, ?_⟩) (by assumption) ?_
    rotate_left
    focus (intro w hSw; (try dsimp only at hSw); go_simp; try with_reducible rfl)
    try simp only [Act.put, List.getElem_toArray, List.getElem_cons_zero, List.getElem_cons_succ, List.setIfInBounds_toArray, List.set_cons_zero, List.set_cons_succ, Nat.zero_add]
    refine wpAnyH_ready (rs := [13]) (by kernel_rfl) (by simp) ?_
    refine (AllReadyH.cons rfl (fun K' hK => ?_) AllReadyH.nil)
    go_simp
    refine hK.out _ _ (HSS.out _ (((Below.refl _ _).drew).alloc (by simp) _)) (fun hHeld => ?_)
    clear hK K'
    try simp only [Act.put, List.getElem_toArray, List.getElem_cons_zero, List.getElem_cons_succ, List.setIfInBounds_toArray, List.set_cons_zero, List.set_cons_succ, Nat.zero_add]
    refine wpAnyH_ready (rs := [14]) (by kernel_rfl) (by simp) ?_
    refine (AllReadyH.cons rfl (fun K' hK => ?_) AllReadyH.nil)
    refine step_appp (w := w3.drew.alloc (.cells #[.int .i64 id, .int .i64 ((met.length : Int) + 1)] 75)) (N := N) (v := .slice al met.length cl) (zs := pws met) (y := pw id ((met.length + 1 : Nat) : Int)) (ad := ⟨w3.heap.size, 0, none⟩) (c := 1) (by rfl) _ _ rfl (by rfl) HP3D.out (by rfl) (by rw [HPW.out]; exact cell_two_new w3.drew _ _ _) (by have := HH.out.n0; have := HC1.out.size; have := HS2.out; have := HS3.out; simp; omega) (by rw [pws_len]; have := HLE.out; omega) ?_
    intro v4 w4 hr4 ho4
    have hB4 := (ho4.block (by have := lt_of_block HB3D.out; simp at this ⊢; omega) HH.out.e4).trans ((Below.heap_alloc _ _ _ (lt_of_block HB3D.out)).trans HB3D.out)
    obtain ⟨a4, p4, e4⟩ := hr4.form
    rw [List.length_append, List.length_singleton, pws_len] at e4
    subst e4
    have hb4 : Below N w3 w4 := (((Below.refl _ _).drew).alloc (by have := HH.out.n0; have := HC1.out.size; have := HS2.out; have := HS3.out; simp; omega) _).trans (ho4.below (by have := HH.out.n0; have := HC1.out.size; have := HS2.out; have := HS3.out; simp; omega) HP3.out.2)
    obtain ⟨c0, c1, c2, c3, cf⟩ := cells4 hB4
    have HR4 := Lib.hid hr4
    have HO4 := Lib.hid ho4
    have HB4 := Lib.hid hB4
    clear hr4 ho4 hB4 hb4
    refine hK.out _ _ (⟨c1, c3, HLK3.out _ (((HM3.out.chg (F := []) ((Chg.refl [] w3).drewN 1) (by simp)).chg (F := []) ((Chg.refl [] _).alloc _) (by simp)).chg HO4.out.1 (by have := HH.out.e5; simpa using this))⟩) (fun hHeld => ?_)
    clear hK K'
    try simp only [Act.put, List.getElem_toArray, List.getElem_cons_zero, List.getElem_cons_succ, List.setIfInBounds_toArray, List.set_cons_zero, List.set_cons_succ, Nat.zero_add]
    refine wpAnyH_take (i := 15) (v := ?_) rfl (by kernel_rfl) (by kernel_rfl) (by kernel_rfl) (fun _ _ _ h => h) (Or.inl ⟨by rfl, ?_⟩) (by assumption) ?_
    rotate_left
    focus (intro w hSw; (try dsimp only at hSw); go_simp; try with_reducible rfl)
    try simp only [Act.put, List.getElem_toArray, List.getElem_cons_zero, List.getElem_cons_succ, List.setIfInBounds_toArray, List.set_cons_zero, List.set_cons_succ, Nat.zero_add]
    refine wpAnyH_take (i := 16) (v := ?_) rfl (by kernel_rfl) (by kernel_rfl) (by kernel_rfl) (fun _ _ _ h => h) (Or.inl ⟨by rfl, ?_⟩) (by assumption) ?_
    rotate_left
    focus (intro w hSw; (try dsimp only at hSw); go_simp; try with_reducible rfl)
    try simp only [Act.put, List.getElem_toArray, List.getElem_cons_zero, List.getElem_cons_succ, List.setIfInBounds_toArray, List.set_cons_zero, List.set_cons_succ, Nat.zero_add]
    refine wpAnyH_done (by kernel_rfl) ?_ _
    show Oper.wp _ _ _ _ _ _
    go_simp
    refine bodyPost_ret (v := .tuple #[]) (by simp [results, Tryd.results11, go_sem]) rfl ?_
    have hmd : Chg [] w3 (w3.drew.alloc (.cells #[.int .i64 id, .int .i64 ((met.length : Int) + 1)] 75)) := ((Chg.refl [] w3).drewN 1).alloc _
    have hB5 := (hdr4_set (o := 3) (u := .slice a4 (met.length + 1) p4) HB4.out).trans rfl
    have hc5 : Chg [Bw] w4 (w4.setCell ⟨Bw, 3, none⟩ (.slice a4 (met.length + 1) p4)) := (Chg.refl _ _).setCell (.inl (by simp)) _
    generalize w4.setCell ⟨Bw, 3, none⟩ (.slice a4 (met.length + 1) p4) = w5 at hB5 hc5 ⊢
    have hmm : meetT met id = met ++ [id] := Gr.meetT_out hin
    have z1 := HC1.out.size
    have z2 := HS2.out
    have z3 := HS3.out
    have z4 : w3.heap.size + 1 ≤ w4.heap.size := by have := HO4.out.1.size; simpa using this
    have o2 : ∀ k, (Value.slice a2 (met.length + 1) p2).ownBlock = some k → (Value.slice aw met.length cw).ownBlock = some k ∨ w.heap.size ≤ k := fun k hk => by
      rcases HO2.out.2 with h | ⟨g, h, hg⟩
      · exact .inl (h ▸ hk)
      · rw [hk] at h; cases h; simp at hg; exact .inr (by omega)
    have o4 : ∀ k, (Value.slice a4 (met.length + 1) p4).ownBlock = some k → (Value.slice al met.length cl).ownBlock = some k ∨ w3.heap.size ≤ k := fun k hk => by
      rcases HO4.out.2 with h | ⟨g, h, hg⟩
      · exact .inl (h ▸ hk)
      · rw [hk] at h; cases h; simp at hg; exact .inr (by omega)
    have o24 : ∀ k, (Value.slice a2 (met.length + 1) p2).ownBlock = some k → (Value.slice al met.length cl).ownBlock ≠ some k := fun k hk e => by
      rcases HO2.out.2 with h | ⟨g, h, hg⟩
      · exact HH.out.e6 k (h ▸ hk) e
      · rw [hk] at h; cases h
        have := (HPL.out k e).1
        simp at hg; omega
    have hbw : Bw < w1.heap.size := lt_of_block HB1.out
    have hbm : Bm < w1.heap.size := HM1.out.lt
    have g1 : Chg (wkF Bw Bm (.slice aw met.length cw) (.slice al met.length cl)) w w1 := HC1.out.mono (by simp [wkF])
    have g2 : Chg (wkF Bw Bm (.slice aw met.length cw) (.slice al met.length cl)) w w2 := (g1.alloc (.cells #[.int .i64 id] 3)).trans HO2.out.1 (fun k hk => .inl (by simp only [wkF, List.mem_cons, List.mem_append]; exact .inr (.inr (.inl hk))))
    have g3 := g2.trans HC3.out (fun k hk => .inl (by simp only [List.mem_singleton] at hk; simp [wkF, hk]))
    have g4 := (g3.trans hmd (fun k hk => by cases hk)).trans HO4.out.1 (fun k hk => .inl (by simp only [wkF, List.mem_cons, List.mem_append]; exact .inr (.inr (.inr hk))))
    have g5 := g4.trans hc5 (fun k hk => .inl (by simp only [List.mem_singleton] at hk; simp [wkF, hk]))
    refine ⟨_, _, rfl, ⟨hB5, ?_, ?_, ?_, ?_, Nat.le_trans HH.out.n0 g5.size, HH.out.n1, HH.out.n2, HH.out.e1, ?_, ?_, ?_, ?_, ?_⟩, g5, o2, fun k hk => (o4 k hk).imp_right (fun h => by omega)⟩
    · have h := ((HM3.out.chg hmd (by simp)).chg HO4.out.1 (by have := HH.out.e5; simpa using this)).chg hc5 (by simpa using fun e : Bm = Bw => HH.out.e1 e.symm)
      rw [hmm, List.length_append, List.length_singleton]
      refine h.congr fun j => ?_
      rw [Gr.pairs_snoc, firstP_snoc]
      by_cases hj : j = id
      · subst hj
        rw [if_pos rfl, HN.out, if_pos rfl]
        rfl
      · rw [if_neg hj, if_neg (fun e => hj e.symm)]
        cases firstP (pairs met) j <;> rfl
    · rw [hmm]
      exact ⟨((HW3.out.1.chg hmd (by simp)).chg HO4.out.1 (fun k hk => by simpa using o24 k hk)).chg hc5 (fun k hk e => by
        simp at e; subst e
        rcases HO2.out.2 with h | ⟨g, h, hg⟩
        · exact HH.out.e2 (h ▸ hk)
        · rw [hk] at h; cases h; simp at hg; omega), HW3.out.2⟩
    · rw [hmm, pws_snoc]
      exact HR4.out.chg hc5 (fun k hk e => by
        simp at e; subst e
        rcases o4 _ hk with h | h
        · exact HH.out.e4 h
        · omega)
    · rw [hmm]
      intro x hx
      rcases List.mem_append.1 hx with h | h
      · exact HH.out.wf x h
      · rw [List.mem_singleton.1 h]; exact hid
    · intro hk
      rcases HO2.out.2 with h | ⟨g, h, hg⟩
      · exact HH.out.e2 (h ▸ hk)
      · rw [hk] at h; cases h; simp at hg; omega
    · intro hk
      rcases HO2.out.2 with h | ⟨g, h, hg⟩
      · exact HH.out.e3 (h ▸ hk)
      · rw [hk] at h; cases h; simp at hg; omega
    · intro hk
      rcases o4 _ hk with h | h
      · exact HH.out.e4 h
      · omega
    · intro hk
      rcases o4 _ hk with h | h
      · exact HH.out.e5 h
      · omega
    · intro k hk e
      rcases o4 k e with h | h
      · exact o24 k hk h
      · have := HW3.out.1.lt hk
        omega
end Go.Proofs.YtenikoecnfbfoaaDoor
/- Layer 8: what GraphRings asks, in plain words. -/
namespace Go.Proofs.YtenikoecnfbfoaaDoor
namespace Gr
open Wr
set_option linter.unusedVariables false
set_option linter.unusedSimpArgs false
def rv (x : Int) : VT := .node 5 x ⟨#[]⟩ []
def ringM (c : Nat → Int) (n j : Nat) : List Int := (List.range (min (j + 1) n)).map c
def ringV (c : Nat → Int) (j : Nat) : List VT := (List.range j).map fun k => rv (c (k + 1))
theorem ringM_get {c : Nat → Int} {n j : Nat} (h : j < n) : (ringM c n j)[j]? = some (c j) := by
  unfold ringM
  rw [List.getElem?_map, List.getElem?_range (by omega)]
  rfl
theorem ringM_next {c : Nat → Int} {n j : Nat} (hj : j < n) (hinj : ∀ a b, a < n → b < n → c a = c b → a = b) (hper : c n = c 0) : meetT (ringM c n j) (c (j + 1)) = ringM c n (j + 1) := by
  by_cases h : j + 1 < n
  · have hn : c (j + 1) ∉ ringM c n j := by
      unfold ringM
      rw [List.mem_map]
      rintro ⟨a, ha, e⟩
      rw [List.mem_range] at ha
      have := hinj a (j + 1) (by omega) h e
      omega
    rw [meetT_out hn]
    unfold ringM
    rw [show min (j + 1) n = j + 1 by omega, show min (j + 1 + 1) n = j + 1 + 1 by omega, List.range_succ (n := j + 1), List.map_append]
    rfl
  · have e : j + 1 = n := by omega
    have hin : c (j + 1) ∈ ringM c n j := by
      rw [e, hper]
      unfold ringM
      rw [List.mem_map]
      exact ⟨0, by rw [List.mem_range]; omega, rfl⟩
    rw [meetT_in hin]
    unfold ringM
    congr 2
    omega
theorem ring_go {objs : List (Int × VT)} {c : Nat → Int} {n m f : Nat} (hm : m ≤ n) (hinj : ∀ a b, a < n → b < n → c a = c b → a = b) (hper : c n = c 0) (hf : ∀ k, k < m → findO objs (c k) = some (rv (c (k + 1)))) :
    ∀ (d j : Nat), j + d = m → bfs objs (f + d) j (ringM c n j) (ringV c j) = bfs objs f m (ringM c n m) (ringV c m)
  | 0, j, h => by
    obtain rfl : j = m := by omega
    rfl
  | d + 1, j, h => by
    rw [← Nat.add_assoc, bfs, ringM_get (by omega)]
    simp only [hf j (by omega)]
    have e : (rv (c (j + 1))).refs.foldl meetT (ringM c n j) = ringM c n (j + 1) := by
      unfold rv
      rw [VT.refs_node, VT.refsL_nil]
      simp only [if_true, List.append_nil, List.foldl_cons, List.foldl_nil]
      exact ringM_next (by omega) hinj hper
    have ev : ringV c j ++ [rv (c (j + 1))] = ringV c (j + 1) := by
      unfold ringV
      rw [List.range_succ, List.map_append]
      rfl
    rw [e, ev]
    exact ring_go hm hinj hper hf d (j + 1) (by omega)
theorem numOf_at {x : Int} : ∀ {l : List Int} {k i : Nat}, l.Nodup → l[i]? = some x → firstP (pairsF k l) x = some (((k + i : Nat)) : Int)
  | y :: l, k, 0, hn, h => by
    rw [List.getElem?_cons_zero] at h
    cases h
    simp [pairsF, firstP]
  | y :: l, k, i + 1, hn, h => by
    rw [List.getElem?_cons_succ] at h
    have hc := List.nodup_cons.1 hn
    have hx : x ∈ l := List.mem_of_getElem? h
    have hne : y ≠ x := fun e => hc.1 (e ▸ hx)
    rw [pairsF, firstP, if_neg (by simpa using hne), numOf_at hc.2 h]
    congr 2
    omega
  | [], _, _, _, h => by cases h
theorem ring_nodup {c : Nat → Int} {n : Nat} (hinj : ∀ a b, a < n → b < n → c a = c b → a = b) : ((List.range n).map c).Nodup := by
  rw [List.Nodup, List.pairwise_map]
  refine List.nodup_range.imp_of_mem ?_
  intro a b ha hb hne e
  rw [List.mem_range] at ha hb
  exact hne (hinj a b ha hb e)
/-- A root "r" of type "t". -/
def rr (x : Int) : RT := ⟨[114], [116], x⟩
theorem sort_rr {x : Int} (h1 : 1 ≤ x) (h2 : x ≤ 1099511627776) : sortO [rr x] [] = some [rr x] := by
  have hok : (rr x).ok = true := by simp [RT.ok, rr, h1, h2]
  simp [sortO, hok, insR]
theorem enc_small {x : Int} (h1 : 1 ≤ x) (h2 : x ≤ 1099511627776) : (num x).length ≤ 10 := num_len (by omega) (by omega)
theorem rv_ok {x : Int} (h1 : 1 ≤ x) (h2 : x ≤ 1099511627776) : encErr (rv x) = 0 := by
  have h1' : (rv x).right 1 = true := by
    simp [rv, VT.right_node, VT.rights_cons, VT.rights_nil, fitsB, emptyB, wr]
    exact ⟨⟨h1, h2⟩, rfl⟩
  have := enc_small h1 h2
  have h3 : (rv x).enc.length ≤ 16384 := by
    simp [rv, VT.enc, VT.encs, topOf, str]
    have := num_len (n := 5) (by decide) (by decide)
    omega
  exact (encErr_ok h1' (by omega)).1
theorem dir_rr {x : Int} (h1 : 1 ≤ x) (h2 : x ≤ 1099511627776) : dirT [rr x] = (dirV [rr x], 0) := by
  have he : encErr (dirV [rr x]) = 0 := by
    have h1' : (dirV [rr x]).right 1 = true := by
      simp [dirV, tupV, strV, refV, noneV, rr, bytes, VT.right_node, VT.rights_cons, VT.rights_nil, fitsB, emptyB, wr]
      exact ⟨rfl, ⟨rfl, by decide, by decide, ⟨h1, h2⟩, rfl⟩, rfl⟩
    have := enc_small h1 h2
    have h3 : (dirV [rr x]).enc.length ≤ 16384 := by
      simp [dirV, tupV, strV, refV, noneV, rr, bytes, VT.enc, VT.encs, topOf, str]
      have e0 := num_len (n := 0) (by decide) (by decide)
      have e1 := num_len (n := 1) (by decide) (by decide)
      have e2 := num_len (n := 2) (by decide) (by decide)
      have e3 := num_len (n := 3) (by decide) (by decide)
      have e4 := num_len (n := 4) (by decide) (by decide)
      have e5 := num_len (n := 5) (by decide) (by decide)
      omega
    exact (encErr_ok h1' (by omega)).1
  unfold dirT
  rw [if_neg (by simp), sort_rr h1 h2]
  simp only [he, if_true]
/-- The ring's graph. -/
def ringG (n : Nat) : GT := ⟨[rr 1], (List.range n).map fun k => rv ((((k + 1) % n + 1 : Nat)) : Int)⟩
theorem ring_make {objs : List (Int × VT)} {c : Nat → Int} {n : Nat} (hn : 0 < n) (hl : objs.length = n) (hinj : ∀ a b, a < n → b < n → c a = c b → a = b) (hper : c n = c 0) (hb : ∀ k, k < n → 1 ≤ c k ∧ c k ≤ 1099511627776)
    (hf : ∀ k, k < n → findO objs (c k) = some (rv (c (k + 1)))) (ho : ∀ o ∈ objs, encErr o.2 = 0) : makeT [rr (c 0)] objs = (ringG n, 0) := by
  have hc0 := hb 0 hn
  have hany : ¬ (objs.any (fun o => decide (encErr o.2 ≠ 0))) = true := by
    simp only [List.any_eq_true, decide_eq_true_eq, not_exists, not_and, Decidable.not_not]
    exact ho
  have hgo := ring_go (f := 1) (Nat.le_refl n) hinj hper hf n 0 (by omega)
  have hM : ringM c n n = (List.range n).map c := by unfold ringM; rw [show min (n + 1) n = n by omega]
  have hend : bfs objs 1 n (ringM c n n) (ringV c n) = some ((List.range n).map c, ringV c n) := by
    rw [hM, bfs, List.getElem?_eq_none (by simp)]
  rw [hend] at hgo
  have hm0 : ([rr (c 0)].map RT.id).foldl meetT [] = ringM c n 0 := by
    unfold ringM
    rw [show min (0 + 1) n = 1 by omega]
    rfl
  unfold makeT
  rw [dir_rr hc0.1 hc0.2, if_neg (by simp), if_neg hany, sort_rr hc0.1 hc0.2]
  simp only [hm0, hl]
  rw [show n + 1 = 1 + n by omega, show ([] : List VT) = ringV c 0 from rfl, hgo]
  have hnd := ring_nodup hinj
  have hnum : ∀ k, k < n → firstP (pairs ((List.range n).map c)) (c k) = some ((k + 1 : Nat) : Int) := fun k hk => by
    have := numOf_at (k := 1) (i := k) (x := c k) hnd (by rw [List.getElem?_map, List.getElem?_range hk]; rfl)
    unfold pairs
    rw [this, Nat.add_comm]
  have hper2 : ∀ k, k < n → firstP (pairs ((List.range n).map c)) (c (k + 1)) = some ((((k + 1) % n + 1 : Nat)) : Int) := fun k hk => by
    by_cases h : k + 1 < n
    · rw [hnum (k + 1) h, Nat.mod_eq_of_lt h]
    · have e : k + 1 = n := by omega
      rw [e, hper, hnum 0 hn, Nat.mod_self]
  have e1 : numOf ((List.range n).map c) (c 0) = 1 := by
    unfold numOf
    rw [hnum 0 hn]
    rfl
  have e2 : (ringV c n).map (fun v => (v.move (firstP (pairs ((List.range n).map c)))).getD zeroV) = (List.range n).map fun k => rv ((((k + 1) % n + 1 : Nat)) : Int) := by
    unfold ringV
    rw [List.map_map]
    apply List.map_congr_left
    intro k hk
    rw [List.mem_range] at hk
    simp only [Function.comp_apply, rv, VT.move, hper2 k hk, if_true, VT.moves]
    rfl
  simp only [List.map_cons, List.map_nil, rr, e1, e2, ringG]
/-- One object is missing. -/
theorem ring_miss {objs : List (Int × VT)} {c : Nat → Int} {n : Nat} (hl : objs.length = n) (hinj : ∀ a b, a < n + 1 → b < n + 1 → c a = c b → a = b) (hper : c (n + 1) = c 0) (hb : ∀ k, k < n + 1 → 1 ≤ c k ∧ c k ≤ 1099511627776)
    (hf : ∀ k, k < n → findO objs (c k) = some (rv (c (k + 1)))) (hno : findO objs (c n) = none) (ho : ∀ o ∈ objs, encErr o.2 = 0) : makeT [rr (c 0)] objs = (⟨[], []⟩, 5) := by
  have hc0 := hb 0 (by omega)
  have hany : ¬ (objs.any (fun o => decide (encErr o.2 ≠ 0))) = true := by
    simp only [List.any_eq_true, decide_eq_true_eq, not_exists, not_and, Decidable.not_not]
    exact ho
  have hgo := ring_go (f := 1) (Nat.le_succ n) hinj hper hf n 0 (by omega)
  have hend : bfs objs 1 n (ringM c (n + 1) n) (ringV c n) = none := by
    rw [bfs, ringM_get (by omega)]
    simp only [hno]
  rw [hend] at hgo
  have hm0 : ([rr (c 0)].map RT.id).foldl meetT [] = ringM c (n + 1) 0 := by
    unfold ringM
    rw [show min (0 + 1) (n + 1) = 1 by omega]
    rfl
  unfold makeT
  rw [dir_rr hc0.1 hc0.2, if_neg (by simp), if_neg hany, sort_rr hc0.1 hc0.2]
  simp only [hm0, hl]
  have hg2 : bfs objs (n + 1) 0 (ringM c (n + 1) 0) [] = none := by
    have h := hgo
    rw [Nat.add_comm 1 n] at h
    exact h
  rw [hg2]
end Gr
end Go.Proofs.YtenikoecnfbfoaaDoor
/- Layer 8: the two rings of GraphRings, in plain words. -/
namespace Go.Proofs.YtenikoecnfbfoaaDoor
open Gr (RT GT makeT rv rr ringG findO ring_make ring_miss rv_ok)
set_option linter.unusedVariables false
set_option linter.unusedSimpArgs false
def rObj (p : Int × Int) : Int × VT := (p.1, rv p.2)
def aL (n i : Nat) : List (Int × Int) := (List.range i).map fun k : Nat => ((2 : Int) + (k : Int), (2 : Int) + (((k + 1) % n : Nat) : Int))
def bL (n B G i : Nat) : List (Int × Int) := ((List.range i).map fun k : Nat => ((B : Int) + (G : Int) * (k : Int), (B : Int) + (G : Int) * (((k + 1) % n : Nat) : Int))).reverse
theorem aL_len (n i : Nat) : (aL n i).length = i := by simp [aL]
theorem bL_len (n B G i : Nat) : (bL n B G i).length = i := by simp [bL]
theorem aL_next (n i : Nat) : aL n (i + 1) = aL n i ++ [((2 : Int) + (i : Int), (2 : Int) + (((i + 1) % n : Nat) : Int))] := by unfold aL; rw [List.range_succ, List.map_append]; rfl
theorem bL_next (n B G i : Nat) : bL n B G (i + 1) = [((B : Int) + (G : Int) * (i : Int), (B : Int) + (G : Int) * (((i + 1) % n : Nat) : Int))] ++ bL n B G i := by unfold bL; rw [List.range_succ, List.map_append, List.reverse_append]; rfl
theorem findO_uniq {id : Int} {v : VT} : ∀ {objs : List (Int × VT)}, (objs.map (·.1)).Nodup → (id, v) ∈ objs → findO objs id = some v
  | [], _, h => by cases h
  | x :: objs, hn, h => by
    rw [List.map_cons] at hn
    have hc := List.nodup_cons.1 hn
    rcases List.mem_cons.1 h with rfl | h
    · unfold findO
      rw [List.find?_cons_of_pos (by simp)]
      rfl
    · have hne : x.1 ≠ id := fun e => hc.1 (by rw [e]; exact List.mem_map.2 ⟨_, h, rfl⟩)
      have ih := findO_uniq hc.2 h
      unfold findO at ih ⊢
      rw [List.find?_cons_of_neg (by simpa using hne)]
      exact ih
theorem findO_out {id : Int} {objs : List (Int × VT)} (h : id ∉ objs.map (·.1)) : findO objs id = none := by
  unfold findO
  rw [List.find?_eq_none.2 (fun x hx => by
    simp only [beq_iff_eq]
    intro e
    exact h (List.mem_map.2 ⟨x, hx, e⟩))]
  rfl
theorem ids_nodup {f : Nat → Int} {m : Nat} (h : ∀ a b, a < m → b < m → f a = f b → a = b) : ((List.range m).map f).Nodup := Gr.ring_nodup h
theorem aL_ids (n i : Nat) : ((aL n i).map rObj).map (·.1) = (List.range i).map fun k : Nat => (2 : Int) + (k : Int) := by
  unfold aL
  rw [List.map_map, List.map_map]
  rfl
theorem bL_ids (n B G i : Nat) : ((bL n B G i).map rObj).map (·.1) = ((List.range i).map fun k : Nat => (B : Int) + (G : Int) * (k : Int)).reverse := by
  unfold bL
  rw [List.map_reverse, List.map_reverse, List.map_map, List.map_map]
  rfl
theorem aL_mem {n i k : Nat} (h : k < i) : ((2 : Int) + (k : Int), rv ((2 : Int) + (((k + 1) % n : Nat) : Int))) ∈ (aL n i).map rObj := by
  unfold aL
  rw [List.map_map, List.mem_map]
  exact ⟨k, List.mem_range.2 h, rfl⟩
theorem bL_mem {n B G i k : Nat} (h : k < i) : ((B : Int) + (G : Int) * (k : Int), rv ((B : Int) + (G : Int) * (((k + 1) % n : Nat) : Int))) ∈ (bL n B G i).map rObj := by
  unfold bL
  rw [List.map_reverse, List.mem_reverse, List.map_map, List.mem_map]
  exact ⟨k, List.mem_range.2 h, rfl⟩
theorem aL_bound {n i : Nat} (hi : i ≤ n) (hn : n ≤ 20) : ∀ p ∈ aL n i, 1 ≤ p.1 ∧ p.1 ≤ 1000 ∧ 1 ≤ p.2 ∧ p.2 ≤ 1000 := fun p hp => by
  unfold aL at hp
  obtain ⟨k, hk, rfl⟩ := List.mem_map.1 hp
  rw [List.mem_range] at hk
  have := Nat.mod_lt (k + 1) (show 0 < n by omega)
  exact ⟨by simp only; omega, by simp only; omega, by simp only; omega, by simp only; omega⟩
theorem gmul {G k : Nat} (hG : G ≤ 50) (hk : k ≤ 20) : (0 : Int) ≤ (G : Int) * (k : Int) ∧ (G : Int) * (k : Int) ≤ 1000 := by
  have h : G * k ≤ 50 * 20 := Nat.mul_le_mul hG hk
  have e : ((G * k : Nat) : Int) = (G : Int) * (k : Int) := by simp
  omega
theorem bL_bound {n B G i : Nat} (hi : i ≤ n) (hn : n ≤ 20) (hB1 : 2 ≤ B) (hB : B ≤ 101) (hG : G ≤ 50) : ∀ p ∈ bL n B G i, 1 ≤ p.1 ∧ p.1 ≤ 2000 ∧ 1 ≤ p.2 ∧ p.2 ≤ 2000 := fun p hp => by
  unfold bL at hp
  rw [List.mem_reverse] at hp
  obtain ⟨k, hk, rfl⟩ := List.mem_map.1 hp
  rw [List.mem_range] at hk
  have := Nat.mod_lt (k + 1) (show 0 < n by omega)
  have h1 := gmul hG (show k ≤ 20 by omega)
  have h2 := gmul hG (show (k + 1) % n ≤ 20 by omega)
  exact ⟨by simp only; omega, by simp only; omega, by simp only; omega, by simp only; omega⟩
theorem robj_ok {l : List (Int × Int)} (h : ∀ p ∈ l, 1 ≤ p.2 ∧ p.2 ≤ 2000) : ∀ o ∈ l.map rObj, encErr o.2 = 0 := fun o ho => by
  obtain ⟨p, hp, rfl⟩ := List.mem_map.1 ho
  have := h p hp
  exact rv_ok (by omega) (by omega)
theorem make_aL {n : Nat} (h1 : 1 ≤ n) (h2 : n ≤ 20) : makeT [rr 2] ((aL n n).map rObj) = (ringG n, 0) := by
  have hc : ∀ k : Nat, k < n → k % n = k := fun k hk => Nat.mod_eq_of_lt hk
  have := ring_make (c := fun k : Nat => (2 : Int) + ((k % n : Nat) : Int)) (objs := (aL n n).map rObj) (n := n) (by omega) (by simp [aL]) (fun a b ha hb e => by
      simp only [hc a ha, hc b hb] at e; omega) (by simp) (fun k hk => by simp only [hc k hk]; omega) (fun k hk => by
      simp only [hc k hk]
      refine findO_uniq ?_ (aL_mem hk)
      rw [aL_ids]
      exact ids_nodup fun a b _ _ e => by omega) (robj_ok fun p hp => by have := aL_bound (Nat.le_refl n) h2 p hp; omega)
  simpa using this
theorem make_bL {n B G : Nat} (h1 : 1 ≤ n) (h2 : n ≤ 20) (hB1 : 2 ≤ B) (hB : B ≤ 101) (hG1 : 1 ≤ G) (hG : G ≤ 50) : makeT [rr ((B : Int) + (G : Int) * ((n / 2 : Nat) : Int))] ((bL n B G n).map rObj) = (ringG n, 0) := by
  have hinj : ∀ a b : Nat, (B : Int) + (G : Int) * (a : Int) = (B : Int) + (G : Int) * (b : Int) → a = b := fun a b e => by
    have e2 : (G : Int) * (a : Int) = (G : Int) * (b : Int) := by omega
    have e3 : ((G * a : Nat) : Int) = ((G * b : Nat) : Int) := by simpa using e2
    exact Nat.eq_of_mul_eq_mul_left (by omega) (Int.ofNat_inj.1 e3)
  have hmod : ∀ k, (n / 2 + k) % n < n := fun k => Nat.mod_lt _ (by omega)
  have := ring_make (c := fun k : Nat => (B : Int) + (G : Int) * (((n / 2 + k) % n : Nat) : Int)) (objs := (bL n B G n).map rObj) (n := n) (by omega) (by simp [bL]) (fun a b ha hb e => by
      have e := hinj _ _ e
      have hq : n / 2 < n := by omega
      by_cases ca : n / 2 + a < n <;> by_cases cb : n / 2 + b < n
      · rw [Nat.mod_eq_of_lt ca, Nat.mod_eq_of_lt cb] at e; omega
      · rw [Nat.mod_eq_of_lt ca, Nat.mod_eq_sub_mod (by omega), Nat.mod_eq_of_lt (by omega)] at e; omega
      · rw [Nat.mod_eq_of_lt cb, Nat.mod_eq_sub_mod (by omega), Nat.mod_eq_of_lt (by omega)] at e; omega
      · rw [Nat.mod_eq_sub_mod (by omega), Nat.mod_eq_of_lt (a := n / 2 + a - n) (by omega), Nat.mod_eq_sub_mod (a := n / 2 + b) (by omega), Nat.mod_eq_of_lt (a := n / 2 + b - n) (by omega)] at e; omega) (by simp) (fun k hk => by
      have h3 := gmul hG (show (n / 2 + k) % n ≤ 20 by have := hmod k; omega)
      omega) (fun k hk => by
      have e : (n / 2 + (k + 1)) % n = ((n / 2 + k) % n + 1) % n := by
        rw [← Nat.add_assoc, Nat.add_mod (n / 2 + k) 1 n, Nat.add_mod ((n / 2 + k) % n) 1 n, Nat.mod_mod]
      simp only [e]
      refine findO_uniq ?_ (bL_mem (hmod k))
      rw [bL_ids, (List.reverse_perm _).nodup_iff]
      exact ids_nodup fun a b _ _ e => hinj a b e) (robj_ok fun p hp => by have := bL_bound (Nat.le_refl n) h2 hB1 hB hG p hp; omega)
  have hq : n / 2 % n = n / 2 := Nat.mod_eq_of_lt (by omega)
  simpa [hq] using this
theorem make_cut {n : Nat} (h1 : 1 ≤ n) (h2 : n ≤ 20) : makeT [rr 2] (((aL n n).take (n - 1)).map rObj) = (⟨[], []⟩, 5) := by
  obtain ⟨m, rfl⟩ : ∃ m, n = m + 1 := ⟨n - 1, by omega⟩
  have ht : (aL (m + 1) (m + 1)).take (m + 1 - 1) = aL (m + 1) m := by
    rw [aL_next, List.take_append_of_le_length (by simp [aL]), List.take_of_length_le (by simp [aL])]
  rw [ht]
  have hc : ∀ k : Nat, k < m + 1 → k % (m + 1) = k := fun k hk => Nat.mod_eq_of_lt hk
  have := ring_miss (c := fun k : Nat => (2 : Int) + ((k % (m + 1) : Nat) : Int)) (objs := (aL (m + 1) m).map rObj) (n := m) (by simp [aL]) (fun a b ha hb e => by
      simp only [hc a ha, hc b hb] at e; omega) (by simp) (fun k hk => by simp only [hc k hk]; omega) (fun k hk => by
      simp only [hc k (by omega)]
      refine findO_uniq ?_ (aL_mem hk)
      rw [aL_ids]
      exact ids_nodup fun a b _ _ e => by omega) (by
      simp only [hc m (by omega)]
      refine findO_out ?_
      rw [aL_ids, List.mem_map]
      rintro ⟨a, ha, e⟩
      rw [List.mem_range] at ha
      omega) (robj_ok fun p hp => by have := aL_bound (show m ≤ m + 1 by omega) h2 p hp; omega)
  simpa using this
end Go.Proofs.YtenikoecnfbfoaaDoor
