/- The program's Move: its map out of a row of pairs, from the last to the first. -/
import Derived.Test.YtofmbpmmgpbdbaaDoorBackw
namespace Go.Proofs.YtofmbpmmgpbdbaaDoor
open Go.RowKit Go.Shelf Go.Maps Wr
set_option linter.unusedVariables false
attribute [local go_sem] Oper.semAt_some

theorem back_stops (F : Fence) (n : Nat) (h7 : F.fn 62) (hro : F.round = none) (hn : 1 ≤ n) (Bs n₀ : Nat) (sv : Value) (zs : List PW) (hreach : zs.length ≤ 1000000) (w : World) (hBs : Bs < w.heap.size) (hn₀ : n₀ ≤ w.heap.size)
    (hc : w.cell? ⟨Bs, 0, none⟩ = some sv) (hI : PairsIs n₀ w sv zs) :
    SeqStopsK F n Tryd.prog 62 #[.pointer (some ⟨Bs, 0, none⟩)] encP (KpB n₀ Bs) (fun ys => ys.map (·.2) = zs.reverse) (fun _ => True) zs.length w := fun l J Jx W hW _ _ hY h0 => by
  have hc' := (hW.cell (p := ⟨Bs, 0, none⟩) hBs).trans hc
  rcases hI.below (hW.mono hn₀) with ⟨rfl, rfl⟩ | ⟨b, off, cap, rfl, hb, hcs⟩
  · exact (back1_nil_in F n h7 hro l Bs J W hc' h0).mono fun e W' ⟨he, hj⟩ => ⟨he, .inl ⟨_, rfl, hj⟩⟩
  · exact back1_in F n h7 hro hn l Bs n₀ b off zs.length cap zs rfl hreach hb J Jx hY W hc' hcs h0

def upd (f : Int → Option Int) (x : PW) : Int → Option Int := fun j => if j = x.1.1 then some x.1.2 else f j
def asg (ps : List PW) : Int → Option Int := ps.foldl upd (fun _ => none)
theorem asg_snoc (ps : List PW) (x : PW) : asg (ps ++ [x]) = upd (asg ps) x := by simp [asg]
theorem asg_wf : ∀ (ps : List PW) (f : Int → Option Int), (∀ a c, f a = some c → (Lit.int .i64 c).wf = true) → ∀ a c, ps.foldl upd f a = some c → (Lit.int .i64 c).wf = true
  | [], f, h, a, c, e => h a c e
  | x :: ps, f, h, a, c, e => by
    refine asg_wf ps (upd f x) (fun a c e => ?_) a c e
    unfold upd at e
    split at e
    · cases e; exact x.2.2
    · exact h a c e
/-- The first pair of that number. -/
def firstOf (zs : List PW) : Int → Option Int := asg zs.reverse

def MvI (w : World) (V : Array Value) (sv : Value) (pre : List (Nat × PW)) (W : World) : Prop :=
  W.heap[w.heap.size]? = some (.cells V 24 (0, 0)) ∧ W.heap[w.heap.size + 1]? = some Z4 ∧ W.heap[w.heap.size + 1 + 1 + 1]? = some (.cells #[.map (some (w.heap.size + 1 + 1))] 63 (0, 0)) ∧ W.heap[w.heap.size + 1 + 1 + 1 + 1]? = some (.cells #[sv] 41 (0, 0)) ∧
    IMap Tryd.prog 3 3 W (w.heap.size + 1 + 1) pre.length (asg (pre.map (·.2))) ∧ Below w.heap.size w W

theorem mv_start (w : World) (V : Array Value) (sv : Value) : MvI w V sv [] (((((w.alloc (.cells V 24 (0, 0))).alloc Z4).alloc (.map #[] 0)).alloc (.cells #[.map (some (w.heap.size + 1 + 1))] 63 (0, 0))).alloc (.cells #[sv] 41 (0, 0))) := by
  have hm := IMap.made (P := Tryd.prog) (K := 3) (E := 3) ((w.alloc (.cells V 24 (0, 0))).alloc Z4)
  obtain ⟨w2, hw2⟩ : ∃ w2, w2 = (w.alloc (.cells V 24 (0, 0))).alloc Z4 := ⟨_, rfl⟩
  have z1 : w2.heap[w.heap.size]? = some (.cells V 24 (0, 0)) := by rw [hw2]; exact (Below.heap_alloc _ _ _ (by simp)).trans (World.alloc_heap_new _ _)
  have z2 : w2.heap[w.heap.size + 1]? = some Z4 := by
    rw [hw2]
    have := World.alloc_heap_new (w.alloc (.cells V 24 (0, 0))) Z4
    simpa using this
  have s2 : w2.heap.size = w.heap.size + 1 + 1 := by rw [hw2]; simp
  have b2 : Below w.heap.size w w2 := by rw [hw2]; exact ((Below.refl _ _).alloc (Nat.le_refl _) _).alloc (by simp) _
  rw [← hw2] at hm ⊢
  rw [s2] at hm
  obtain ⟨w3, hw3⟩ : ∃ w3, w3 = w2.alloc (.map #[] 0) := ⟨_, rfl⟩
  rw [← hw3] at hm ⊢
  have s3 : w3.heap.size = w.heap.size + 1 + 1 + 1 := by rw [hw3]; simp [s2]
  have b3 : Below w2.heap.size w2 w3 := by rw [hw3]; exact (Below.refl _ _).alloc (Nat.le_refl _) _
  obtain ⟨w4, hw4⟩ : ∃ w4, w4 = w3.alloc (.cells #[.map (some (w.heap.size + 1 + 1))] 63 (0, 0)) := ⟨_, rfl⟩
  rw [← hw4]
  have s4 : w4.heap.size = w.heap.size + 1 + 1 + 1 + 1 := by rw [hw4]; simp [s3]
  have b4 : Below w3.heap.size w3 w4 := by rw [hw4]; exact (Below.refl _ _).alloc (Nat.le_refl _) _
  have z4 : w4.heap[w.heap.size + 1 + 1 + 1]? = some (.cells #[.map (some (w.heap.size + 1 + 1))] 63 (0, 0)) := by rw [hw4, ← s3]; exact World.alloc_heap_new _ _
  have b5 : Below w4.heap.size w4 (w4.alloc (.cells #[sv] 41 (0, 0))) := (Below.refl _ _).alloc (Nat.le_refl _) _
  have z5 : (w4.alloc (.cells #[sv] 41 (0, 0))).heap[w.heap.size + 1 + 1 + 1 + 1]? = some (.cells #[sv] 41 (0, 0)) := by rw [← s4]; exact World.alloc_heap_new _ _
  have b25 : Below w2.heap.size w2 (w4.alloc (.cells #[sv] 41 (0, 0))) := (b3.trans (b4.mono b3.size)).trans (b5.mono (Nat.le_trans b3.size b4.size))
  have b35 : Below w3.heap.size w3 (w4.alloc (.cells #[sv] 41 (0, 0))) := b4.trans (b5.mono b4.size)
  exact ⟨(b25.block _ (lt_of_block z1)).trans z1, (b25.block _ (lt_of_block z2)).trans z2, (b5.block _ (lt_of_block z4)).trans z4, z5, hm.chg (below_chg b35) (by simp), b2.trans (b25.mono b2.size)⟩
theorem mv_chg {w W W' : World} {V : Array Value} {sv : Value} {pre : List (Nat × PW)} {F : List Nat} (h : MvI w V sv pre W) (hc : Chg F W W') (hF : ∀ k ∈ F, w.heap.size + 1 + 1 + 1 + 1 < k) : MvI w V sv pre W' := by
  obtain ⟨h1, h2, h3, h4, h5, h6⟩ := h
  exact ⟨(hc.block _ (lt_of_block h1) (fun hm => by have := hF _ hm; omega)).trans h1, (hc.block _ (lt_of_block h2) (fun hm => by have := hF _ hm; omega)).trans h2, (hc.block _ (lt_of_block h3) (fun hm => by have := hF _ hm; omega)).trans h3, (hc.block _ (lt_of_block h4) (fun hm => by have := hF _ hm; omega)).trans h4, h5.chg hc (fun hm => by have := hF _ hm; omega), h6.trans (hc.below h6.size (fun k hk => by have := hF k hk; omega))⟩
theorem mv_round {w W W' : World} {V : Array Value} {sv : Value} {pre : List (Nat × PW)} {x : Nat × PW} (h : MvI w V sv pre W) (hc : Chg [w.heap.size + 1 + 1] W W') (hm : IMap Tryd.prog 3 3 W' (w.heap.size + 1 + 1) (pre.length + 1) (upd (asg (pre.map (·.2))) x.2)) : MvI w V sv (pre ++ [x]) W' := by
  obtain ⟨h1, h2, h3, h4, h5, h6⟩ := h
  refine ⟨(hc.block _ (lt_of_block h1) (by simp only [List.mem_singleton]; omega)).trans h1, (hc.block _ (lt_of_block h2) (by simp only [List.mem_singleton]; omega)).trans h2, (hc.block _ (lt_of_block h3) (by simp only [List.mem_singleton]; omega)).trans h3, (hc.block _ (lt_of_block h4) (by simp only [List.mem_singleton]; omega)).trans h4, ?_, h6.trans (hc.below h6.size (by intro k hk; simp at hk; omega))⟩
  rw [List.length_append, List.length_singleton, List.map_append, List.map_cons, List.map_nil, asg_snoc]
  exact hm
theorem mv_own {w W0 A B : World} {V : Array Value} {sv : Value} {pre : List (Nat × PW)} {row : Option Nat} (h0 : W0.heap.size = w.heap.size + 1 + 1 + 1 + 1 + 1) (h : MvI w V sv pre A) (hg : A.grownBy B row) (hr : ∀ r, row = some r → W0.heap.size ≤ r) : MvI w V sv pre B :=
  mv_chg h ((Chg.refl row.toList A).grown hg (fun k hk => .inl (by simp [hk]))) (fun k hk => by have := hr k (by simpa using hk); omega)
set_option maxRecDepth 100000 in
set_option maxHeartbeats 2000000 in
theorem move_any (t : VT) (v : Value) (w : World) (P : Nat → Prop) (sv : Value) (zs : List PW) (hsz : t.sz ≤ 100000) (ht : ValIs w P t v) (hP : ∀ b, P b → b < w.heap.size) (hz : zs.length ≤ 1000000) (hps : PairsIs w.heap.size w sv zs) (hsv : ∃ ao n c, sv = .slice ao n c) :
    Calls Tryd.prog 18 #[v, sv] w (MoveEnd w P (t.move (firstOf zs))) := by
  have HT := Lib.hid ht
  have HP := Lib.hid hP
  have HPS := Lib.hid hps
  have HZ := Lib.hid hz
  obtain ⟨ka, na, sa, la⟩ := t
  have ht0 := ht
  unfold ValIs at ht
  obtain ⟨ao, cap, rfl, _⟩ := ht
  obtain ⟨aos, ns, cs, rfl⟩ := hsv
  clear ht0 hps hP hz
  have hmm := @run_makeMap Tryd.prog
  refine (callsIn_wide (n := 6)).1 ?_
  refine callsIn_of_wp_marks Tryd.func18 rfl trivial ?_ rfl
  simp only [Tryd.ntmps18, List.size_toArray, List.length_cons, List.length_nil, Nat.reduceAdd, Nat.reduceSub, Array.replicate_succ, Array.replicate_zero, List.push_toArray, List.append_toArray, List.nil_append, List.cons_append]
  gi_wp2_with (refine ⟨trivial, ?_⟩; gi_at_call 35; refine (backward_in Fence.wide _ trivial rfl _ _ _ _).mono ?_; rintro e w' ⟨rfl, rfl⟩)
  have h0 : MvI w #[.int .i64 ka, .int .i64 na, .string sa, .slice ao la.length cap] (.slice aos ns cs) [] (((((w.alloc (.cells #[.int .i64 ka, .int .i64 na, .string sa, .slice ao la.length cap] 24 (0, 0))).alloc Z4).alloc (.map #[] 0)).alloc (.cells #[.map (some (w.heap.size + 1 + 1))] 63 (0, 0))).alloc (.cells #[.slice aos ns cs] 41 (0, 0))) := mv_start w #[.int .i64 ka, .int .i64 na, .string sa, .slice ao la.length cap] (.slice aos ns cs)
  have hsz0 : (((((w.alloc (.cells #[.int .i64 ka, .int .i64 na, .string sa, .slice ao la.length cap] 24 (0, 0))).alloc Z4).alloc (.map #[] 0)).alloc (.cells #[.map (some (w.heap.size + 1 + 1))] 63 (0, 0))).alloc (.cells #[.slice aos ns cs] 41 (0, 0))).heap.size = w.heap.size + 1 + 1 + 1 + 1 + 1 := by simp
  obtain ⟨W0, hW0⟩ : ∃ W0, W0 = (((((w.alloc (.cells #[.int .i64 ka, .int .i64 na, .string sa, .slice ao la.length cap] 24 (0, 0))).alloc Z4).alloc (.map #[] 0)).alloc (.cells #[.map (some (w.heap.size + 1 + 1))] 63 (0, 0))).alloc (.cells #[.slice aos ns cs] 41 (0, 0))) := ⟨_, rfl⟩
  rw [← hW0] at h0 hsz0 ⊢
  clear hW0
  have H0 := Lib.hid h0
  refine wpIn_rangeFunc_ownH rfl (by omega) (gf := 62) (lb := #[.pointer (some ⟨w.heap.size + 1 + 1 + 1 + 1, 0, none⟩)]) rfl trivial (enters_of Tryd.func62 (by kernel_rfl) rfl)
    (back_stops Fence.wide _ trivial rfl (by omega) (w.heap.size + 1 + 1 + 1 + 1) w.heap.size (.slice aos ns cs) zs HZ.out W0 (by omega) (by omega) (by simp [World.cell?, h0.2.2.2.1]) (HPS.out.below h0.2.2.2.2.2)) kpB_t (kpB_b (by omega) (by omega)) (Below.refl _ _) (fun _ => rfl)
    (fun pre W => MvI w #[.int .i64 ka, .int .i64 na, .string sa, .slice ao la.length cap] (.slice aos ns cs) pre W)
    (fun _ _ _ => False)
    (fun pre A B row hs hg hr => mv_own hsz0 hs hg (fun r e => (hr r e).1))
    (fun _ _ _ _ _ hs _ _ => hs)
    h0
    (fun x a' W => ∃ Bx, W0.heap.size ≤ Bx ∧ W.heap[Bx]? = some (.cells #[.int .i64 x.2.1.1, .int .i64 x.2.1.2] 43 (0, 0)) ∧ a' = { tmps := #[.agg #[.int .i64 ka, .int .i64 na, .string sa, .slice ao la.length cap], .slice aos ns cs, .pointer (some ⟨w.heap.size, 0, none⟩), undef, .pointer (some ⟨w.heap.size + 1, 0, none⟩), .bool false, .pointer (some ⟨w.heap.size + 1 + 1 + 1, 0, none⟩), undef, .pointer (some ⟨Bx, 0, none⟩), .map (some (w.heap.size + 1 + 1)), .slice aos ns cs, .func (.func 62) #[] #[.pointer (some ⟨w.heap.size + 1 + 1 + 1 + 1, 0, none⟩)], .int .i64 (x.1 : Int), .agg #[.int .i64 x.2.1.1, .int .i64 x.2.1.2], undef, undef, undef, undef, undef, undef, undef, undef, undef, undef], defers := [] })
    (fun x a' _ X Y row hs hg hr => by obtain ⟨Bx, h1, h2, h3⟩ := hs; exact ⟨Bx, h1, (hg.block Bx (lt_of_block h2) (fun e => by obtain ⟨_, o, ho, hc⟩ := hr _ e.symm; rw [h2] at ho; cases ho; cases hc)).trans h2, h3⟩)
    ?assign ?body ?done ?stop
  case assign =>
    rintro l pre x W K hI hK
    dsimp only [encP]
    have hW : W0.heap.size ≤ W.heap.size := by have := lt_of_block hI.2.2.2.1; omega
    gi_wp2
    exact hK _ _ ((KeepsOthers.alloc _ _).from _) ⟨(Below.refl _ W).alloc (by omega) _, Below.heap_alloc _ _ _ (by omega)⟩ (mv_chg hI ((Chg.refl [] W).alloc _) (by simp)) ⟨W.heap.size, hW, World.alloc_heap_new _ _, rfl⟩
  case body =>
    rintro l pre x a' W hl ⟨r, hr⟩ hI ⟨Bx, hBx, bX, rfl⟩ hlt
    have HI := Lib.hid hI
    obtain ⟨i1, i2, i3, i4, i5, i6⟩ := hI
    have cm : W.cell? ⟨w.heap.size + 1 + 1 + 1, 0, none⟩ = some (.map (some (w.heap.size + 1 + 1))) := by simp [World.cell?, i3]
    have cx : W.cell? ⟨Bx, 0, none⟩ = some (.int .i64 x.2.1.1) := by simp [World.cell?, bX]
    have cy : W.cell? ⟨Bx, 1, none⟩ = some (.int .i64 x.2.1.2) := by simp [World.cell?, bX]
    obtain ⟨D, hown, hf⟩ := i5
    have HFD := Lib.hid hf
    have hmx : pre.length < maxLen := by have := HZ.out; unfold maxLen; omega
    have HOWN := Lib.hid hown
    clear i1 i2 i3 i4 i6 hf hown bX
    gi_wp2_with (gi_at_mapUpdate; refine wpListIn_mapUpdate_own _ rfl _ _ _ 63 rfl 3 3 (Maps.int_keyed Tryd.underlying3) Tryd.underlying63 _ (w.heap.size + 1 + 1) pre.length D rfl HOWN.out hmx _ _ _ rfl rfl (Maps.keyOf_int_mk Tryd.underlying3 x.2.2.1) _ [] (plainElem_int Tryd.underlying3 x.2.2.2) ?_; intro w1 hown1 hgrow1)
    have hc : Chg [w.heap.size + 1 + 1] W w1 := (Chg.refl _ W).grown hgrow1 (fun k hk => by cases hk; exact .inl (by simp))
    have hb : Below w.heap.size W w1 := hc.below HI.out.2.2.2.2.2.size (by intro k hk; simp at hk; omega)
    refine ⟨KeepsFrom.of_grownBy hgrow1 (fun j e => by cases e; omega), ⟨hb, hc.block _ (lt_of_block HI.out.2.2.2.1) (by simp only [List.mem_singleton]; omega)⟩, ?_⟩
    refine mv_round HI.out hc ⟨_, hown1, fun j => ?_⟩
    rw [mapAt_put (IMap.isMap HOWN.out) ((int_keyed Tryd.underlying3).key (keyOf_int_mk Tryd.underlying3 x.2.2.1)), HFD.out j]
    rfl
  case done =>
    rintro D ys W hD hys hI hK
    have HI := Lib.hid hI
    obtain ⟨i1, i2, i3, i4, i5, i6⟩ := hI
    obtain ⟨v0, v1, v2, v3, v4⟩ := hdr4_cells i1
    obtain ⟨r0, r1, r2, r3, r4⟩ := hdr4_cells i2
    have cm : W.cell? ⟨w.heap.size + 1 + 1 + 1, 0, none⟩ = some (.map (some (w.heap.size + 1 + 1))) := by simp [World.cell?, i3]
    have HKD := Lib.hid hK
    have HD := Lib.hid hD
    have hmv := move_walk (firstOf zs) (w.heap.size + 1 + 1) ys.length (VT.node ka na sa la).sz (VT.node ka na sa la) _ W P (Nat.le_refl _) hsz (HT.out.below i6 HP.out) (fun b hb => Nat.lt_of_lt_of_le (HP.out b hb) i6.size) (by rw [hys] at i5; exact i5) (asg_wf _ _ (fun a c e => by cases e))
    have HM := Lib.hid hmv
    clear hmv i1 i2 i3 i4 i5 i6 hK hD hys
    obtain ⟨r, hr⟩ : ∃ r, VT.move (firstOf zs) (VT.node ka na sa la) = r := ⟨_, rfl⟩
    rw [hr] at HM ⊢
    obtain ⟨u, hu⟩ : ∃ u, r.getD zeroT = u := ⟨_, rfl⟩
    have HU := Lib.hid hu
    have HR := Lib.hid hr
    clear hr hu
    gi_wp2_with (refine ⟨trivial, ?_⟩; gi_at_call 36; refine (callsIn_wide.2 HM.out).mono ?_; rintro e w5 ⟨v5, rfl, hv5, hb5⟩; rw [HU.out] at hv5; obtain ⟨ao5, cap5, rfl⟩ := hv5.form; have z5 := (hb5.block (w.heap.size + 1) (lt_of_block HI.out.2.1)).trans HI.out.2.1; obtain ⟨r0, r1, r2, r3, r4⟩ := hdr4_cells z5; have Z5 := Lib.hid z5; have V5 := Lib.hid hv5; have B5 := Lib.hid hb5; clear hv5 hb5 z5; unfold vval)
    obtain ⟨z1, z2⟩ := four_ret (y0 := .int .i64 u.kind) (y1 := .int .i64 u.num) (y2 := .string u.text) (y3 := .slice ao5 u.kids.length cap5) Z5.out
    generalize ((((World.setCell _ _ _).setCell _ _).setCell _ _).setCell _ _) = wz at z1 z2 ⊢
    have hkd : wz.heap[D]? = some (.deferred (some [])) := (z2.block D (Nat.lt_of_lt_of_le ((Array.getElem?_eq_some_iff.1 HKD.out).1) B5.out.size) (by have := HD.out; simp; omega)).trans ((B5.out.block D (Array.getElem?_eq_some_iff.1 HKD.out).1).trans HKD.out)
    have hcd : Chg [D] wz (wz.putObj D (.deferred none)) := (Chg.refl _ wz).grown (grownBy_putObj' wz D _) (fun k hk => by cases hk; exact .inl (by simp))
    have zd := (hcd.block _ (lt_of_block z1) (by have := HD.out; simp; omega)).trans z1
    refine ⟨by simp, .inl ⟨_, _, rfl, run_takeDeferred hkd, ?_⟩⟩
    obtain ⟨y0, y1, y2, y3, _⟩ := hdr4_cells zd
    refine ⟨.tuple #[vval u ao5 cap5, .bool r.isSome], by simp [results, Tryd.results18, go_sem, y0, y1, y2, y3, vval], ?_⟩
    rw [HR.out]
    have hDW := (Array.getElem?_eq_some_iff.1 HKD.out).1
    have hDl := HD.out
    have hs5 := B5.out.size
    have hq : ∀ b, (P b ∨ W.heap.size ≤ b) → b ≠ w.heap.size + 1 ∧ b ≠ D := fun b hb => by
      rcases hb with h | h
      · have := HP.out b h; omega
      · have := HI.out.2.2.2.2.2.size; have := lt_of_block HI.out.2.1; omega
    refine ⟨_, rfl, ?_, ?_⟩
    · rw [HU.out]
      refine ((V5.out.chg z2 (fun b hb => ⟨hb.2, by simp; exact (hq b hb.1).1⟩)).chg hcd (fun b hb => ⟨Nat.lt_of_lt_of_le hb.2 z2.size, by simp; exact (hq b hb.1).2⟩)).mono (fun b hb => ⟨hb.1.imp id (fun h => Nat.le_trans HI.out.2.2.2.2.2.size h), Nat.lt_of_lt_of_le hb.2 (Nat.le_trans z2.size hcd.size)⟩)
    · have hbw := HI.out.2.2.2.2.2
      refine ((hbw.trans (B5.out.mono hbw.size)).trans (z2.below (Nat.le_trans hbw.size hs5) (by simp))).trans (hcd.below (Nat.le_trans (Nat.le_trans hbw.size hs5) z2.size) (by intro k hk; simp at hk; omega))
  case stop =>
    rintro D c pre W _ _ h _
    exact h.elim
end Go.Proofs.YtofmbpmmgpbdbaaDoor
