/- The law KindSwaps. -/
import Derived.Test.YthchkekegkhanaaDoorKdRnm
import Derived.Laws.Small
namespace Go.Proofs.YthchkekegkhanaaDoor
open Go.RowKit Go.Maps
set_option linter.unusedVariables false

/-- As 'TRow', its types in blocks that Q allows. -/
def QRow (T : TypeId) (w : World) (base : Nat) (Q : Nat → Prop) (v : Value) (l : List Ty) : Prop :=
  ∃ ps : List (Option Addr × Nat), ps.length = l.length ∧ RowZ w T 4 v l.length (tcells l ps) ∧ (∀ k, v.ownBlock = some k → base ≤ k) ∧
    ∀ (i : Nat) (t : Ty) (p : Option Addr × Nat), l[i]? = some t → ps[i]? = some p → TyIs w (fun b => base ≤ b ∧ b < w.heap.size ∧ v.ownBlock ≠ some b ∧ Q b) t (tval t p.1 p.2)
section
variable {T : TypeId} {w w' : World} {base : Nat} {Q Q' : Nat → Prop} {v : Value} {l : List Ty}
theorem QRow.nil (w : World) (base : Nat) (Q : Nat → Prop) : QRow T w base Q (.slice none 0 0) [] := ⟨[], rfl, RowZ.nil _ _ _, fun k h => by simp [Value.ownBlock] at h, fun i t p h => by cases h⟩
theorem QRow.row (h : QRow T w base Q v l) : TRow T w base v l := by
  obtain ⟨ps, h1, h2, h3, h4⟩ := h
  exact ⟨ps, h1, h2, h3, fun i t p ht hp => (h4 i t p ht hp).mono fun b hb => ⟨hb.1, hb.2.1, hb.2.2.1⟩⟩
theorem QRow.chg (h : QRow T w base Q v l) {F : List Nat} (hc : Chg F w w') (hF : ∀ k ∈ F, k < w.heap.size → ¬ Q k) (hv : ∀ k, v.ownBlock = some k → k ∉ F) (hQ : ∀ b, b < w.heap.size → Q b → Q' b) : QRow T w' base Q' v l := by
  obtain ⟨ps, h1, h2, h3, h4⟩ := h
  refine ⟨ps, h1, h2.chg hc hv, h3, fun i t p ht hp => ?_⟩
  exact ((h4 i t p ht hp).chg hc (fun b hb => ⟨hb.2.1, fun hm => hF b hm hb.2.1 hb.2.2.2⟩)).mono fun b hb' => ⟨hb'.1, Nat.lt_of_lt_of_le hb'.2.1 hc.size, hb'.2.2.1, hQ b hb'.2.1 hb'.2.2.2⟩
theorem QRow.below (h : QRow T w base Q v l) (hb : Below w.heap.size w w') : QRow T w' base Q v l := h.chg (F := []) (below_chg hb) (by simp) (by simp) fun _ _ h => h
theorem QRow.grown {g cap : Nat} {ps : List (Option Addr × Nat)} {t : Ty} {p : Option Addr × Nat} (h1 : ps.length = l.length) (h3 : ∀ k, v.ownBlock = some k → base ≤ k) (hbase : base ≤ w.heap.size)
    (h4 : ∀ (i : Nat) (t : Ty) (p : Option Addr × Nat), l[i]? = some t → ps[i]? = some p → TyIs w (fun b => base ≤ b ∧ b < w.heap.size ∧ v.ownBlock ≠ some b ∧ Q b) t (tval t p.1 p.2))
    (ht : TyIs w (fun b => base ≤ b ∧ b < w.heap.size ∧ v.ownBlock ≠ some b ∧ Q b) t (tval t p.1 p.2))
    (hr : RowZ w' T 4 (.slice (some ⟨g, 0, none⟩) (l.length + 1) cap) (l.length + 1) (tcells l ps ++ tcell t p)) (hg : w.grownBy w' v.ownBlock) (hl : v.ownBlock = some g ∨ g = w.heap.size) :
    QRow T w' base Q (.slice (some ⟨g, 0, none⟩) (l.length + 1) cap) (l ++ [t]) ∧ TStep w v w' (.slice (some ⟨g, 0, none⟩) (l.length + 1) cap) := by
  have hc : Chg v.ownBlock.toList w w' := (Chg.refl _ w).grown hg (fun k hk => .inl (by simp [hk]))
  have hsz := hc.size
  have hgl : g < w'.heap.size := hr.lt rfl
  have keep : ∀ {u : Ty} {x : Value}, TyIs w (fun b => base ≤ b ∧ b < w.heap.size ∧ v.ownBlock ≠ some b ∧ Q b) u x → TyIs w' (fun b => base ≤ b ∧ b < w'.heap.size ∧ (Value.slice (some ⟨g, 0, none⟩) (l.length + 1) cap).ownBlock ≠ some b ∧ Q b) u x := fun hv =>
    (hv.chg hc (fun b hb => ⟨hb.2.1, by simpa using hb.2.2.1⟩)).mono fun b hb => ⟨hb.1, by omega, by
      simp only [Value.ownBlock, ne_eq, Option.some.injEq]
      rintro rfl
      rcases hl with e | e
      · exact hb.2.2.1 e
      · omega, hb.2.2.2⟩
  refine ⟨⟨ps ++ [p], by simp [h1], ?_, fun k hk => ?_, fun i u q hu hq => ?_⟩, hc, ?_⟩
  · rw [tcells_snoc h1, List.length_append]; exact hr
  · simp only [Value.ownBlock, Option.some.injEq] at hk
    subst hk
    rcases hl with e | e
    · exact h3 _ e
    · omega
  · by_cases hi : i < l.length
    · rw [List.getElem?_append_left hi] at hu
      rw [List.getElem?_append_left (by omega)] at hq
      exact keep (h4 i u q hu hq)
    · have : i = l.length := by
        have := (List.getElem?_eq_some_iff.1 hu).1
        simp at this; omega
      subst this
      rw [List.getElem?_append_right (Nat.le_refl _), Nat.sub_self] at hu
      rw [List.getElem?_append_right (by omega), h1, Nat.sub_self] at hq
      cases hu; cases hq
      exact keep ht
  · rcases hl with e | e
    · exact .inl e.symm
    · exact .inr ⟨g, rfl, by omega⟩
end
/-- Two rows that grow in turn. -/
def Rows2 (T T' : TypeId) (w : World) (base : Nat) (v v' : Value) (l l' : List Ty) : Prop :=
  QRow T w base (fun b => v'.ownBlock ≠ some b) v l ∧ QRow T' w base (fun b => v.ownBlock ≠ some b) v' l' ∧ ∀ k, v.ownBlock = some k → v'.ownBlock ≠ some k
section
variable {T T' : TypeId} {w w' : World} {base : Nat} {v v' : Value} {l l' : List Ty}
theorem Rows2.swap (h : Rows2 T T' w base v v' l l') : Rows2 T' T w base v' v l' l := ⟨h.2.1, h.1, fun k hk e => h.2.2 k e hk⟩
theorem Rows2.below (h : Rows2 T T' w base v v' l l') (hb : Below w.heap.size w w') : Rows2 T T' w' base v v' l l' := ⟨h.1.below hb, h.2.1.below hb, h.2.2⟩
theorem Rows2.step {v1 : Value} {l1 : List Ty} (h : Rows2 T T' w base v v' l l') (h1 : QRow T w' base (fun b => v'.ownBlock ≠ some b) v1 l1) (hs : TStep w v w' v1) : Rows2 T T' w' base v1 v' l1 l' := by
  have hlt : ∀ k, v'.ownBlock = some k → k < w.heap.size := fun k hk => (h.2.1.row.lt hk).2
  refine ⟨h1, h.2.1.chg hs.1 (fun k hk _ e => e (Option.mem_toList.1 hk)) (fun k hk hm => h.2.2 k (Option.mem_toList.1 hm) hk) (fun b hb e => ?_), fun k hk e => ?_⟩
  · rcases hs.2 with e1 | ⟨j, e1, hj⟩
    · rw [e1]; exact e
    · rw [e1]; intro e2; cases e2; omega
  · rcases hs.2 with e1 | ⟨j, e1, hj⟩
    · rw [e1] at hk; exact h.2.2 k hk e
    · rw [e1] at hk; cases hk; have := hlt _ e; omega
/-- What is new lies in neither. -/
theorem Rows2.aside (h : Rows2 T T' w base v v' l l') {W : World} {n : Nat} {t : Ty} {x : Value} (hn : w.heap.size ≤ n) (hb : base ≤ n) (ht : TyIs W (fun b => n ≤ b ∧ b < W.heap.size) t x) : TyIs W (fun b => base ≤ b ∧ b < W.heap.size ∧ v.ownBlock ≠ some b ∧ v'.ownBlock ≠ some b) t x :=
  ht.mono fun b hb' => ⟨by omega, hb'.2, fun e => by have := (h.1.row.lt e).2; omega, fun e => by have := (h.2.1.row.lt e).2; omega⟩
theorem Rows2.keep {a : World} (h : Rows2 T T' w base v v' l l') (ha : Below a.heap.size a w) (hbase : a.heap.size ≤ base) {v1 : Value} (hs : TStep w v w' v1) : Below a.heap.size a w' :=
  (((below_chg ha).mono (F' := v.ownBlock.toList) (by simp)).trans hs.1 (fun k hk => .inl hk)).below (Nat.le_refl _) (fun k hk => Nat.le_trans hbase (h.1.row.lt (Option.mem_toList.1 hk)).1)
end
/-- 'append(l, t)' to one of two rows. -/
theorem wpList_app2 {w : World} {ops : Array Oper} {o : Oper} {a : Act} {Q : Exit → Act → World → Prop} {rest : List Oper} (hgd : o.guard = none) (s x : Operand) (L T T' : TypeId) (ho : o.op = .call { callee := .builtin .append, args := #[s, x], argTypes := #[L, L] })
    (hT : Tryd.prog.underlying L = some (.slice T)) (hi : (Tryd.prog.info? T).map (fun i => (i.zero, i.size, i.bytes)) = some (some (.agg #[.int .i64 0, .int .i64 0, .string ⟨#[]⟩, .slice none 0 0]), 4, 56))
    {base : Nat} {v v' : Value} {l l' : List Ty} (hs : a.eval s = v) (hr : Rows2 T T' w base v v' l l') {t : Ty} {p : Option Addr × Nat} {ad : Addr} {c : Nat} (hx : a.eval x = .slice (some ad) 1 c)
    (hnews : ∀ j u, (tcell t p)[j]? = some u → w.cell? (ad.add j) = some u) (ht : TyIs w (fun b => base ≤ b ∧ b < w.heap.size ∧ v.ownBlock ≠ some b ∧ v'.ownBlock ≠ some b) t (tval t p.1 p.2)) (hN : base ≤ w.heap.size) (h63 : l.length ≤ 1000000)
    {b0 : World} (hb0 : Below b0.heap.size b0 w) (hbase : b0.heap.size ≤ base)
    (h : ∀ g cap w', Rows2 T T' w' base (.slice (some ⟨g, 0, none⟩) (l.length + 1) cap) v' (l ++ [t]) l' → Below b0.heap.size b0 w' → wpList Tryd.prog ops Q rest (a.put o.dst (.slice (some ⟨g, 0, none⟩) (l.length + 1) cap)) w') : wpList Tryd.prog ops Q (o :: rest) a w := by
  have hr0 := hr
  obtain ⟨⟨ps, k1, k2, k3, k4⟩, hr2, hr3⟩ := hr
  refine wpList_appz w hgd s x L ho T _ 4 56 hT hi rfl (by decide) v l.length (tcells l ps) hs k2 ad 1 c (tcell t p) hx (by omega) rfl hnews (tcell_one _ _) (by omega) (by omega) ?_
  intro g cap w' hr' hg hl
  obtain ⟨n1, n2⟩ := QRow.grown k1 k3 hN k4 ht hr' hg hl
  exact h g cap w' (hr0.step n1 n2) (hr0.keep hb0 hbase n2)
theorem Ty.sub_sz (s : Int → Ty) (hs : ∀ n, (s n).sz ≤ 60) (t : Ty) : (t.sub s).sz ≤ 60 * t.sz := by
  refine Ty.ind (p := fun t => (t.sub s).sz ≤ 60 * t.sz) (fun n => by rw [Ty.sub, Ty.sz]; have := hs n; omega) (fun c l ih => ?_) t
  rw [Ty.sub_con, Ty.sz, Ty.sz]
  have : ∀ l : List Ty, (∀ t ∈ l, (t.sub s).sz ≤ 60 * t.sz) → Ty.szs (l.map (Ty.sub s)) ≤ 60 * Ty.szs l := by
    intro l
    induction l with
    | nil => intro _; simp [Ty.szs]
    | cons a l ihl =>
      intro h
      rw [List.map_cons, Ty.szs, Ty.szs]
      have h1 := h a (by simp)
      have h2 := ihl fun t ht => h t (by simp [ht])
      omega
  have := this l ih
  omega
theorem pick_sz {n : Int} : ∀ {h : List Int} {ts : List Ty}, (∀ u ∈ ts, u.sz ≤ 60) → ∀ u, pick n h ts = some u → u.sz ≤ 60
  | [], _, _, u, e => by simp [pick] at e
  | a :: h, [], _, u, e => by simp [pick] at e
  | a :: h, t :: ts, hl, u, e => by
    rw [pick] at e
    split at e
    · cases e; exact hl _ (by simp)
    · exact pick_sz (fun u hu => hl u (by simp [hu])) u e
theorem swS_sz {h : List Int} {ts : List Ty} (hl : ∀ u ∈ ts, u.sz ≤ 60) (n : Int) : (swS h ts n).sz ≤ 60 := by
  unfold swS
  cases e : pick n h ts with
  | none => rw [Option.getD_none, Ty.sz]; omega
  | some u => exact pick_sz hl u e
theorem ints_take {w : World} {a : Option Addr} {n c N : Nat} {h : List Int} (hi : IntsAt w (.slice a n c) h) (hN : N ≤ h.length) : IntsAt w (.slice a N c) (h.take N) := by
  obtain ⟨ao, cap, e, h2, h3, k⟩ := hi
  cases e
  refine ⟨a, c, by rw [List.length_take, Nat.min_eq_left hN], by rw [List.length_take]; omega, h3, fun i x hx => ?_⟩
  have hiN : i < N := by
    have := (List.getElem?_eq_some_iff.1 hx).1
    rw [List.length_take] at this; omega
  rw [List.getElem?_take_of_lt hiN] at hx
  exact k i x hx
theorem min_two (x : Nat) : ∃ N : Nat, N ≤ x ∧ N ≤ 12 ∧ ∀ W : World, (Builtin.min_ #[3, 3] 3 #[.int .i64 (x : Int), .int .i64 12]).run Tryd.prog W = .ok (.int .i64 (N : Int)) W := by
  refine ⟨min x 12, by omega, by omega, fun W => ?_⟩
  rw [run_min_int2]
  congr 2
  split <;> omega
/-- The first i of by, tamed. -/
def byT (l : List VT) (i : Nat) : List Ty := (l.take i).map tm
theorem byT_succ {l : List VT} {i : Nat} {t : VT} (h : l[i]? = some t) : byT l (i + 1) = byT l i ++ [tm t] := by unfold byT; rw [take_snoc h, List.map_append]; rfl
theorem byT_sz {l : List VT} {i : Nat} : ∀ u ∈ byT l i, u.sz ≤ 60 := fun u hu => by
  unfold byT at hu
  obtain ⟨t, _, rfl⟩ := List.mem_map.1 hu
  exact tm_sz t
def SwapsLoop (W : World) (l : List VT) (M : Nat) (gk : Nat) (s7 s8 s9 : Value) (wr : World) : Prop :=
  ∃ i : Nat, s9 = .int .i64 i ∧ i + gk = M ∧ Rows2 25 40 wr W.heap.size s7 s8 (byT l i) (byT l i) ∧ Below W.heap.size W wr
theorem in_cells2 {w : World} {l : List VT} {ao : Option Addr} (hk : KidsAt w (fun b => b < w.heap.size) l ao 0) {i : Nat} (hi : i < l.length) :
    ∃ t b o x0 x1 x2 x3, l[i]? = some t ∧ ao = some ⟨b, o, none⟩ ∧ ∀ W, Below w.heap.size w W → (W.cell? ⟨b, o + i * 4, none⟩ = some x0 ∧ W.cell? ⟨b, o + i * 4 + 1, none⟩ = some x1 ∧ W.cell? ⟨b, o + i * 4 + 2, none⟩ = some x2 ∧ W.cell? ⟨b, o + i * 4 + 3, none⟩ = some x3) ∧
      Calls Tryd.prog 16 #[.agg #[x0, x1, x2, x3]] W (NewTy W (tm t)) := by
  obtain ⟨t, ht⟩ : ∃ u, l[i]? = some u := ⟨_, List.getElem?_eq_getElem hi⟩
  obtain ⟨b, o, x0, x1, x2, x3, rfl, hP, p0, p1, p2, p3, hv⟩ := hk.get ht
  rw [Nat.zero_add] at p0 p1 p2 p3
  refine ⟨t, b, o, x0, x1, x2, x3, ht, rfl, fun W hW => ⟨⟨(hW.cell (p := ⟨b, o + i * 4, none⟩) hP).trans p0, (hW.cell (p := ⟨b, o + i * 4 + 1, none⟩) hP).trans p1, (hW.cell (p := ⟨b, o + i * 4 + 2, none⟩) hP).trans p2, (hW.cell (p := ⟨b, o + i * 4 + 3, none⟩) hP).trans p3⟩, ?_⟩⟩
  exact tame_any (hv.below hW (fun b hb => hb)) (fun b hb' => Nat.lt_of_lt_of_le hb' hW.size)
theorem swaps_cells {w W : World} {b9 b5 b2 : Nat} {y0 y1 y2 y3 u0 u1 u2 u3 v0 v1 v2 v3 : Value} {t2 t3 t4 : TypeId} (h : BxAt w W [(b9, #[y0, y1, y2, y3], t2), (b5, #[u0, u1, u2, u3], t3), (b2, #[v0, v1, v2, v3], t4)]) :
    (W.cell? ⟨b9, 0, none⟩ = some y0 ∧ W.cell? ⟨b9, 1, none⟩ = some y1 ∧ W.cell? ⟨b9, 2, none⟩ = some y2 ∧ W.cell? ⟨b9, 3, none⟩ = some y3) ∧ (W.cell? ⟨b5, 0, none⟩ = some u0 ∧ W.cell? ⟨b5, 1, none⟩ = some u1 ∧ W.cell? ⟨b5, 2, none⟩ = some u2 ∧ W.cell? ⟨b5, 3, none⟩ = some u3) ∧ (W.cell? ⟨b2, 0, none⟩ = some v0 ∧ W.cell? ⟨b2, 1, none⟩ = some v1 ∧ W.cell? ⟨b2, 2, none⟩ = some v2 ∧ W.cell? ⟨b2, 3, none⟩ = some v3) :=
  ⟨h.at4 (.head _), h.at4 (List.Mem.tail _ (List.Mem.head _)), h.at4 (List.Mem.tail _ (List.Mem.tail _ (List.Mem.head _)))⟩
theorem swaps_ty {W w' : World} {t : Ty} {v : Value} (h : TyIs w' (fun b => b < W.heap.size ∨ (W.heap.size ≤ b ∧ b < w'.heap.size)) t v) (hb : Below W.heap.size W w') : TyOf w' t v := h.mono fun b hb' => by
  have := hb.size
  rcases hb' with e | e
  · omega
  · exact e.2
theorem swaps_le {a w w3 : World} (h : Below a.heap.size a w) (h3 : Below w.heap.size w w3) (o : Obj) : a.heap.size ≤ (w3.alloc o).heap.size := by
  have := h.size
  have := h3.size
  simp
  omega
def SwCmp (W : World) (n : Nat) (gk : Nat) (s13 : Value) (wr : World) : Prop := ∃ i : Nat, s13 = .int .i64 i ∧ i + gk = n ∧ Below W.heap.size W wr
set_option maxRecDepth 100000 in
set_option maxHeartbeats 3200000 in
theorem kindSwaps_walk (t0 : VT) (v x1 : Value) (hs : List Int) (lb : List VT) (aob : Option Addr) (capb : Nat) (w : World) (hv : ValIs w (fun b => b < w.heap.size) t0 v) (hi : IntsAt w x1 hs) (hb1 : lb.length ≤ capb ∧ capb ≤ maxLen) (hkb : KidsAt w (fun b => b < w.heap.size) lb aob 0) :
    Calls Tryd.prog 7 #[v, x1, .slice aob lb.length capb] w fun e w' => e = .returned (.bool true) ∧ Below w.heap.size w w' := by
  obtain ⟨N, hN1, hN2, hmin⟩ := min_two hs.length
  obtain ⟨av, cv, rfl, hcv, hcm⟩ := hi.form
  have HKB := Lib.hid hkb
  have HHS := Lib.hid (ints_take hi hN1)
  have HNL : Hid ((hs.take N).length = N) := by show _ = _; rw [List.length_take]; omega
  generalize hs.take N = hv' at HHS HNL
  unfold maxLen at hb1 hcm
  clear hkb hi
  have hform : ∃ ao cap, v = .agg #[.int .i64 t0.kind, .int .i64 t0.num, .string t0.text, .slice ao t0.kids.length cap] := by
    have h := hv
    rw [t0.eta] at h
    unfold ValIs at h
    obtain ⟨ao, cap, h, _⟩ := h
    exact ⟨ao, cap, h⟩
  obtain ⟨ao, cap, rfl⟩ := hform
  have HTM := Lib.hid (tame_any (hv.below ((Below.refl w.heap.size w).alloc (Nat.le_refl _) (.cells #[.int .i64 t0.kind, .int .i64 t0.num, .string t0.text, .slice ao t0.kids.length cap] 40)) (fun b hb => hb)) (fun b hb => by simp; omega))
  obtain ⟨t, ht⟩ : ∃ t, t = tm t0 := ⟨_, rfl⟩
  rw [← ht] at HTM
  have HTN : Hid (t.nice ∧ t.sz ≤ 60) := by rw [ht]; exact ⟨tm_nice _, tm_sz _⟩
  clear ht hv
  unfold NewTy tval at HTM
  go_enter Tryd.func7, Tryd.ntmps7
  go_upto_region 2 with (go_at_call 16; (with_reducible refine HTM.out.mono ?_); clear HTM; rintro e w1 ⟨a2, c2, rfl, ht1, hb1⟩; have z1 := (hb1.block w.heap.size (by simp)).trans (heap_alloc_new w _); obtain ⟨g0, g1, g2, g3, g4⟩ := hdr4_cells z1; have T1 := Lib.hid ht1; have B1 := Lib.hid hb1; have Z1 := Lib.hid z1; clear ht1 hb1 z1)
  obtain ⟨hz, hc⟩ := four_ret (y0 := .int .i64 t.op) (y1 := .int .i64 t.num) (y2 := .string t.text) (y3 := .slice a2 t.kids.length c2) Z1.out
  generalize ((((World.setCell w1 _ _).setCell _ _).setCell _ _).setCell _ _) = W1 at hz hc ⊢
  have hB : BxAt w W1 [(w.heap.size, agT t a2 c2, 40)] := by
    have hb1 := B1.out
    have hs1 := hb1.size
    simp only [World.size_alloc] at hs1
    refine ⟨(((Below.refl _ _).alloc (Nat.le_refl _) _).trans (hb1.mono (by simp))).trans (hc.below (by omega) (by simp)), fun x hx => ?_⟩
    rw [List.mem_singleton] at hx
    subst hx
    exact hz
  have hT : TyOf W1 t (tval t a2 c2) := by
    have hs1 := B1.out.size
    simp only [World.size_alloc] at hs1
    exact (T1.out.chg hc (fun b hb => ⟨hb.2, by have := hb.1; simp at this ⊢; omega⟩)).mono fun b hb => Nat.lt_of_lt_of_le hb.2 hc.size
  obtain ⟨b2, hb2⟩ : ∃ b2, b2 = w.heap.size := ⟨_, rfl⟩
  rw [← hb2] at hB ⊢
  have HB2 := Lib.hid hb2
  clear hb2 hz hc g0 g1 g2 g3 g4 Z1 B1 T1
  have B0 := Lib.hid hB
  have T0 := Lib.hid hT
  obtain ⟨c0, c1', c2', c3'⟩ := B0.out.at4 (b := b2) (.head _)
  clear hB hT
  unfold agT at B0
  unfold tval at T0
  have n0 : (0 : Int) ≤ (N : Int) := by omega
  have n1 : (N : Int) ≤ (cv : Int) := by omega
  have n2 : N ≤ cv := by omega
  go_upto_region 5 with fail
  obtain ⟨M, hM1, hM2, hM3⟩ : ∃ M : Nat, M ≤ lb.length ∧ M ≤ 12 ∧ (M = lb.length ∨ (M < lb.length ∧ M = 12)) := ⟨min lb.length 12, by omega, by omega, by omega⟩
  have HM3 := Lib.hid hM3
  have HL : Hid (SwapsLoop W1 lb M M (.slice none 0 0) (.slice none 0 0) (.int .i64 0) W1) := ⟨0, rfl, by omega, ⟨QRow.nil _ _ _, QRow.nil _ _ _, fun k h => by simp [Value.ownBlock] at h⟩, Below.refl _ _⟩
  clear hM3 n0 n1 n2 hmin hcv hcm
  go_wp2
  go_loopg [7, 8, 9] M (fun gk s7 s8 s9 wr => SwapsLoop W1 lb M gk s7 s8 s9 wr)
  case atStart => exact HL.out
  case round =>
    clear HL
    obtain ⟨i, rfl, hik, hr, hb⟩ := hrel
    obtain ⟨ak, ck, rfl⟩ := hr.1.row.form
    obtain ⟨ar, cr, rfl⟩ := hr.2.1.row.form
    have HRW := Lib.hid hr
    have HBW := Lib.hid hb
    clear hr hb
    have g0 : (0 : Int) ≤ (i : Int) := by omega
    by_cases hlt : i < M
    · have g1 : (i : Int) < (lb.length : Int) := by omega
      have g2 : (i : Int) < 12 := by omega
      obtain ⟨tb, bb, ob, x0, x1, x2, x3, htb, rfl, hca⟩ := in_cells2 HKB.out (show i < lb.length by omega)
      have HCA := Lib.hid hca
      have HTB := Lib.hid htb
      have HZB : Hid ((tm tb).sz ≤ 60) := tm_sz tb
      have HTO : Hid (∀ (W : World) (u : Ty) (x : Value), TyOf W u x → u.sz ≤ 60 → Calls Tryd.prog 17 #[x] W (NewTy W u)) := fun W u x h hz => to_new h (fun b hb => hb) hz
      have HW : Hid (∀ W, Below W1.heap.size W1 W → Below w.heap.size w W) := fun W hW => bt B0.out.hb hW
      have hl6 : (byT lb i).length ≤ 1000000 := by unfold byT; simp; omega
      have HL6 := Lib.hid hl6
      obtain ⟨p0, p1, p2, p3⟩ := (hca _ (HW.out _ HBW.out)).1
      have Q1 : Hid True := trivial
      clear hca htb hl6
      obtain ⟨u, hu⟩ : ∃ u, u = tm tb := ⟨_, rfl⟩
      rw [← hu] at HZB HCA
      have HU := Lib.hid hu
      clear hu
      unfold NewTy tval at HTO HCA
      go_wp2_with (first
        | (go_at_call 16; clear Q1; (with_reducible refine (HCA.out _ (HW.out _ HBW.out)).2.mono ?_); rintro e w3 ⟨a3, c3, rfl, ht3, hb3⟩; have T3 := Lib.hid ht3; have B3 := Lib.hid hb3; clear ht3 hb3)
        | (at_builtin; refine wpList_app2 rfl _ _ 22 40 25 rfl Tryd.underlying22 infoR (base := W1.heap.size) rfl ((HRW.out.swap.below B3.out).below ((Below.refl _ _).alloc (Nat.le_refl _) _)) (t := u) (p := (a3, c3)) (ad := ⟨w3.heap.size, 0, none⟩) (c := 1) rfl (cell_four_new _ _ _ _ _ _) (HRW.out.swap.aside (Nat.le_refl _) HBW.out.size (ord_up T3.out ((Below.refl _ _).alloc (Nat.le_refl _) _))) (swaps_le HBW.out B3.out _) HL6.out (b0 := W1) (oa (bt HBW.out B3.out) _) (Nat.le_refl _) ?_; intro g4 c4 w4 hr4 hb4; have R4 := Lib.hid hr4.swap; have B4 := Lib.hid hb4; obtain ⟨p0, p1, p2, p3⟩ := (HCA.out _ (HW.out _ hb4)).1; clear hr4 hb4)
        | (go_at_call 16; (with_reducible refine (HCA.out _ (HW.out _ B4.out)).2.mono ?_); rintro e w5 ⟨a5, c5, rfl, ht5, hb5⟩; have T5 := Lib.hid (TyOf.new ht5); have B5 := Lib.hid hb5; clear ht5 hb5)
        | (go_at_call 17; (with_reducible refine (HTO.out _ _ _ T5.out HZB.out).mono ?_); rintro e w6 ⟨a6, c6, rfl, ht6, hb6⟩; have T6 := Lib.hid ht6; have B6 := Lib.hid hb6; clear ht6 hb6)
        | (at_builtin; refine wpList_app2 rfl _ _ 23 25 40 rfl Tryd.underlying23 infoK (base := W1.heap.size) rfl (((R4.out.below B5.out).below B6.out).below ((Below.refl _ _).alloc (Nat.le_refl _) _)) (t := u) (p := (a6, c6)) (ad := ⟨w6.heap.size, 0, none⟩) (c := 1) rfl (cell_four_new _ _ _ _ _ _) (R4.out.aside B5.out.size (bt B4.out B5.out).size (ord_up T6.out ((Below.refl _ _).alloc (Nat.le_refl _) _))) (swaps_le (bt B4.out B5.out) B6.out _) HL6.out (b0 := W1) (oa (bt (bt B4.out B5.out) B6.out) _) (Nat.le_refl _) ?_; intro g7 c7 w7 hr7 hb7; have R7 := Lib.hid hr7; have B7 := Lib.hid hb7; clear hr7 hb7))
      go_roundg (gk - 1)
      case measure => omega
      case rel => exact ⟨i + 1, by go_num, by omega, by rw [byT_succ HTB.out, ← HU.out]; exact R7.out, B7.out⟩
    · obtain rfl : i = M := by omega
      go_upto_region 6 with fail
      go_cut [29] (fun s29 wz => s29 = .bool false ∧ wr = wz)
      case first =>
        rcases HM3.out with e | ⟨e1, e2⟩
        · have g1 : ¬ (i : Int) < (lb.length : Int) := by omega
          clear e
          go_wp2
          go_meet
          exact ⟨rfl, rfl⟩
        · have g1 : (i : Int) < (lb.length : Int) := by omega
          have g2 : ¬ (i : Int) < 12 := by omega
          clear e1 e2
          go_wp2
          go_meet
          exact ⟨rfl, rfl⟩
      case rest =>
        obtain ⟨rfl, hwz⟩ := hcut
        subst hwz
        obtain ⟨ts, hts⟩ : ∃ ts, ts = byT lb i := ⟨_, rfl⟩
        have HSZ : Hid (∀ u ∈ ts, u.sz ≤ 60) := by rw [hts]; exact byT_sz
        rw [← hts] at HRW ⊢
        obtain ⟨k1a, k1c, e1, kk1, kk2, _, kk3⟩ := HRW.out.1.row.kids
        injection e1 with q1 q2 q3
        subst q1 q3
        obtain ⟨k1a, k1c, e1, kk4, kk5, _, kk6⟩ := HRW.out.2.1.row.kids
        injection e1 with q1 q2 q3
        subst q1 q3
        have KI := Lib.hid kk3
        have KM := Lib.hid kk6
        have KL := Lib.hid (And.intro kk1 (And.intro kk2 (And.intro kk4 kk5)))
        have B3 := Lib.hid (B0.out.below HBW.out)
        have T3 := Lib.hid (T0.out.up HBW.out)
        have H3 : Hid (IntsAt wr (.slice av N cv) hv') := ints_up HHS.out (bt B0.out.hb HBW.out)
        obtain ⟨c0, c1', c2', c3'⟩ := B3.out.at4 (b := b2) (.head _)
        have HTO : Hid (∀ (W : World) (u : Ty) (x : Value), TyOf W u x → u.sz ≤ 60 → Calls Tryd.prog 17 #[x] W (NewTy W u)) := fun W u x h hz => to_new h (fun b hb => hb) hz
        unfold NewTy tval at HTO
        clear hts kk1 kk2 kk3 kk4 kk5 kk6 HRW B0 T0 HHS HBW q2 HKB HM3 hM1 hM2
        go_upto_region 11 with (go_at_call 17; (with_reducible refine (HTO.out _ _ _ T3.out HTN.out.2).mono ?_); clear HTO; rintro e w4 ⟨a3, c3, rfl, ht4, hb4⟩; have T4 := Lib.hid (TyOf.new ht4); have B4 := Lib.hid hb4; clear ht4 hb4)
        have hB5 := (B3.out.below B4.out).box (agT t a3 c3) 25
        have hT5 := T4.out.up (oa (Below.refl w4.heap.size w4) (.cells (agT t a3 c3) 25))
        have hT0 := (T3.out.up B4.out).up (oa (Below.refl w4.heap.size w4) (.cells (agT t a3 c3) 25))
        have hB6 : Below wr.heap.size wr (w4.alloc (.cells (agT t a3 c3) 25)) := oa B4.out _
        unfold agT at hB5 hT5 hT0 hB6
        generalize w4.alloc (.cells #[.int .i64 t.op, .int .i64 t.num, .string t.text, .slice a3 t.kids.length c3] 25) = W5 at hB5 hT5 hT0 hB6 ⊢
        generalize w4.heap.size = b10 at hB5 ⊢
        obtain ⟨y, hy⟩ : ∃ y, y = t.sub (swS hv' ts) := ⟨_, rfl⟩
        have HYZ : Hid (y.sz ≤ 3600) := by rw [hy]; have := Ty.sub_sz _ (swS_sz HSZ.out (h := hv')) t; have := HTN.out.2; show _ ≤ _; omega
        have HSW : Hid (∀ W, Below W5.heap.size W5 W → Calls Tryd.prog 30 #[.agg #[.int .i64 t.op, .int .i64 t.num, .string t.text, .slice a3 t.kids.length c3], .slice av N cv, .slice ak ts.length ck] W (NewTy W y)) := fun W hW => by
          have := swap_walk (h := hv') (ts := ts) (xv := .slice av N cv) (ao2 := ak) (cap2 := ck) (P := fun b => b < W.heap.size) KL.out.1 KL.out.2.1 (by have := HNL.out; omega) (fun u hu => by have := HSZ.out u hu; omega) t.sz t _ W (Nat.le_refl _) (by have := HTN.out.2; omega) (hT5.up hW) (fun b hb => hb) (ints_up (ints_up H3.out hB6) hW) ((KI.out.below (bt hB6 hW) (fun b hb => hb.2)).mono fun b hb => Nat.lt_of_lt_of_le hb.2 (bt hB6 hW).size)
          rw [← hy] at this
          exact this
        have HRS : Hid (∀ W, Below W5.heap.size W5 W → Calls Tryd.prog 31 #[.agg #[.int .i64 t.op, .int .i64 t.num, .string t.text, .slice a2 t.kids.length c2], .slice av N cv, .slice ar ts.length cr] W (SwEnd (fun b => b < W.heap.size) W y)) := fun W hW => by
          have := refSwap_walk (h := hv') (ts := ts) (xv := .slice av N cv) (ao2 := ar) (cap2 := cr) (P := fun b => b < W.heap.size) KL.out.2.2.1 KL.out.2.2.2 (by have := HNL.out; omega) t.sz t _ W (Nat.le_refl _) (by have := HTN.out.2; omega) (hT0.up hW) (fun b hb => hb) (ints_up (ints_up H3.out hB6) hW) ((KM.out.below (bt hB6 hW) (fun b hb => hb.2)).mono fun b hb => Nat.lt_of_lt_of_le hb.2 (bt hB6 hW).size)
          rw [← hy] at this
          exact this
        clear hy
        have B5 := Lib.hid hB5
        have T5 := Lib.hid hT5
        have T05 := Lib.hid hT0
        clear hB5 hT5 hT0 hB6 KI KM KL H3 B3 B4 T3 T4 c0 c1' c2' c3'
        obtain ⟨h, hh⟩ : ∃ h, h = t.vrs [] := ⟨_, rfl⟩
        have HL9 : Hid (h.length ≤ 9) := by rw [hh]; exact Ty.nice_vrs HTN.out.1
        have HVA : Hid (∀ W, Below W5.heap.size W5 W → Calls Tryd.prog 26 #[.agg #[.int .i64 t.op, .int .i64 t.num, .string t.text, .slice a3 t.kids.length c3]] W fun e w' => ∃ vo, e = .returned vo ∧ IRow w' W.heap.size vo h ∧ Below W.heap.size W w') := fun W hW => by
          rw [hh]; exact vars_any t _ W _ (by have := HTN.out.2; omega) (T5.out.up hW) (fun b hb => hb)
        have HRV : Hid (∀ W, Below W5.heap.size W5 W → Calls Tryd.prog 27 #[.agg #[.int .i64 t.op, .int .i64 t.num, .string t.text, .slice a2 t.kids.length c2], .slice none 0 0] W fun e w' => ∃ vo, e = .returned vo ∧ IRow w' 0 vo h ∧ Below W.heap.size W w') := fun W hW => by
          rw [hh]; exact refVars_walk t.sz t _ _ W [] _ (Nat.le_refl _) (T05.out.up hW) (fun b hb => hb) (IRow.nil _ _) (by have := HTN.out.2; simp; omega)
        have HKP := Lib.hid (fun (W : World) (hW : Below W5.heap.size W5 W) => And.intro ((B5.out.below hW).at4 (b := b10) (.head _)) ((B5.out.below hW).at4 (b := b2) (List.Mem.tail _ (List.Mem.head _))))
        obtain ⟨xs, hxs⟩ : ∃ xs, xs = t.text' := ⟨_, rfl⟩
        have HSH : Hid (∀ W, Below W5.heap.size W5 W → Calls Tryd.prog 28 #[.agg #[.int .i64 t.op, .int .i64 t.num, .string t.text, .slice a3 t.kids.length c3]] W fun e w' => e = .returned (.string xs) ∧ Below W.heap.size W w') := fun W hW => by
          rw [hxs]; exact showAll_any (by have := HTN.out.2; omega) HTN.out.1.1 (by have := HL9.out; rw [hh] at this; omega) (T5.out.up hW) (fun b hb => hb)
        have HRH : Hid (∀ W, Below W5.heap.size W5 W → Calls Tryd.prog 29 #[.agg #[.int .i64 t.op, .int .i64 t.num, .string t.text, .slice a2 t.kids.length c2]] W fun e w' => e = .returned (.string xs) ∧ Below W.heap.size W w') := fun W hW => by
          rw [hxs]; exact refShowAll_any (by have := HTN.out.2; omega) HTN.out.1.1 (by have := HL9.out; rw [hh] at this; omega) (T05.out.up hW) (fun b hb => hb)
        clear hh hxs
        have HKI := Lib.hid (fun W => kinds_any W)
        go_region_held3 (fun w' => (w'.cell? ⟨b10, 0, none⟩ = some (.int .i64 t.op) ∧ w'.cell? ⟨b10, 1, none⟩ = some (.int .i64 t.num) ∧ w'.cell? ⟨b10, 2, none⟩ = some (.string t.text) ∧ w'.cell? ⟨b10, 3, none⟩ = some (.slice a3 t.kids.length c3)) ∧ (w'.cell? ⟨b2, 0, none⟩ = some (.int .i64 t.op) ∧ w'.cell? ⟨b2, 1, none⟩ = some (.int .i64 t.num) ∧ w'.cell? ⟨b2, 2, none⟩ = some (.string t.text) ∧ w'.cell? ⟨b2, 3, none⟩ = some (.slice a2 t.kids.length c2)))
          (with_reducible (first | exact HKP.out _ D7.out | exact HKP.out _ D6.out | exact HKP.out _ (bd (Below.refl _ _)) | go_keep))
          (first
            | (go_at_call 26; (with_reducible refine (HVA.out _ (bd (Below.refl _ _))).mono ?_); clear HVA; rintro e w6 ⟨vo, rfl, hr6, hb6⟩; obtain ⟨a6, p6, rfl, hp6, hm6⟩ := hr6.form; have R6 := Lib.hid hr6; have D6 := Lib.hid (bt (bd (Below.refl W5.heap.size W5)) hb6); clear hr6 hb6)
            | (go_at_call 27; (with_reducible refine (HRV.out _ D6.out).mono ?_); clear HRV; rintro e w7 ⟨vo, rfl, hr7, hb7⟩; obtain ⟨a7, p7, rfl, hp7, hm7⟩ := hr7.form; have R67 := Lib.hid (R6.out.below hb7); have R7 := Lib.hid hr7; have D7 := Lib.hid (bt D6.out hb7); clear hr7 hb7))
        go_upto_region 12 with fail
        have HZ7 : Hid (Below w7.heap.size w7 w7.drew) := bd (Below.refl _ _)
        go_region_held3 (fun w' => (w'.cell? ⟨b10, 0, none⟩ = some (.int .i64 t.op) ∧ w'.cell? ⟨b10, 1, none⟩ = some (.int .i64 t.num) ∧ w'.cell? ⟨b10, 2, none⟩ = some (.string t.text) ∧ w'.cell? ⟨b10, 3, none⟩ = some (.slice a3 t.kids.length c3)) ∧ (w'.cell? ⟨b2, 0, none⟩ = some (.int .i64 t.op) ∧ w'.cell? ⟨b2, 1, none⟩ = some (.int .i64 t.num) ∧ w'.cell? ⟨b2, 2, none⟩ = some (.string t.text) ∧ w'.cell? ⟨b2, 3, none⟩ = some (.slice a2 t.kids.length c2)))
          (with_reducible (first | exact HKP.out _ (bt D7.out E3.out) | exact HKP.out _ (bt D7.out E2.out) | exact HKP.out _ (bt D7.out E1.out) | (refine HKP.out _ ?_; repeat (first | exact D7.out | apply bd)) | go_keep))
          (first
            | (go_at_call 12; (with_reducible refine (HKI.out _).mono ?_); rintro e v1 ⟨rfl, hb⟩; have E1 : Hid (Below w7.heap.size w7 v1) := (bt (by (with_reducible repeat (first | exact HZ7.out | exact Below.refl _ _ | apply bd))) hb : Below w7.heap.size w7 v1); clear hb)
            | (go_at_call 28; (with_reducible refine (HSH.out _ (bt D7.out E1.out)).mono ?_); clear HSH; rintro e v2 ⟨rfl, hb⟩; have E2 := Lib.hid (bt E1.out hb); clear hb)
            | (go_at_call 29; (with_reducible refine (HRH.out _ (bt D7.out E2.out)).mono ?_); clear HRH; rintro e v3 ⟨rfl, hb⟩; have E3 := Lib.hid (bt E2.out hb); clear hb))
        have HL2 : Hid (SwCmp v3 h.length h.length (.int .i64 0) v3) := ⟨0, rfl, by omega, Below.refl _ _⟩
        have R6c := Lib.hid (R67.out.below E3.out)
        have R7c := Lib.hid (R7.out.below E3.out)
        have BV := Lib.hid (bt D7.out E3.out)
        clear R67 R6 R7 D6 D7 E1 E2 E3 HZ7 HKI HNL HSZ
        go_wp2
        go_loopg [13] h.length (fun gk s13 wr => SwCmp v3 h.length gk s13 wr)
        case atStart => exact HL2.out
        case round =>
          clear HL2
          obtain ⟨j, rfl, hjk, hb⟩ := hrel
          rename World => wq
          have HBQ := Lib.hid hb
          clear hb
          have g0 : (0 : Int) ≤ (j : Int) := by omega
          have g9 : (h.length : Int) ≤ 9 := by have := HL9.out; omega
          by_cases hlt : j < h.length
          · have g1 : (j : Int) < (h.length : Int) := by omega
            obtain ⟨x, hx⟩ : ∃ u, h[j]? = some u := ⟨_, List.getElem?_eq_getElem hlt⟩
            obtain ⟨g6, rfl, hg6, hc6⟩ := (R6c.out.below HBQ.out).at hx
            obtain ⟨g7, rfl, hg7, hc7⟩ := (R7c.out.below HBQ.out).at hx
            clear hx
            go_wp2
            go_quiet (fail)
            go_wp2
            go_roundg (gk - 1)
            case measure => omega
            case rel => exact ⟨j + 1, by go_num, by omega, by (with_reducible repeat (first | exact HBQ.out | apply bd | apply below_drewN))⟩
          · obtain rfl : j = h.length := by omega
            have E0 := Lib.hid (bt BV.out HBQ.out)
            obtain ⟨⟨c0, c1', c2', c3'⟩, ⟨d0, d1', d2', d3'⟩⟩ := HKP.out _ E0.out
            unfold NewTy tval at HSW
            go_upto_region 20 with (go_at_call 30; (with_reducible refine (HSW.out _ E0.out).mono ?_); clear HSW; rintro e w4 ⟨a8, c8, rfl, ht4, hb4⟩; have T8 := Lib.hid (TyOf.new ht4); have E4 := Lib.hid (bt E0.out hb4); clear ht4 hb4)
            have hB9 := (B5.out.below E4.out).box (agT y a8 c8) 25
            have hT9 := T8.out.up (oa (Below.refl w4.heap.size w4) (.cells (agT y a8 c8) 25))
            have hE9 : Below W5.heap.size W5 (w4.alloc (.cells (agT y a8 c8) 25)) := oa E4.out _
            unfold agT at hB9 hT9 hE9
            generalize w4.alloc (.cells #[.int .i64 y.op, .int .i64 y.num, .string y.text, .slice a8 y.kids.length c8] 25) = W9 at hB9 hT9 hE9 ⊢
            generalize w4.heap.size = b14 at hB9 ⊢
            have B9 := Lib.hid hB9
            have T9 := Lib.hid hT9
            have E9 := Lib.hid hE9
            clear hB9 hT9 hE9 c0 c1' c2' c3' d0 d1' d2' d3' R6c R7c
            have HKQ := Lib.hid (fun (W : World) (hW : Below W9.heap.size W9 W) => swaps_cells (B9.out.below hW))
            have HFY : Hid (∀ W, Below W9.heap.size W9 W → Calls Tryd.prog 22 #[.agg #[.int .i64 y.op, .int .i64 y.num, .string y.text, .slice a8 y.kids.length c8]] W (NewTy W y)) := fun W hW => from_walk y.sz y _ W _ (Nat.le_refl _) (by have := HYZ.out; omega) (T9.out.up hW) (fun b hb => hb)
            have HFT : Hid (∀ W, Below W9.heap.size W9 W → Calls Tryd.prog 22 #[.agg #[.int .i64 t.op, .int .i64 t.num, .string t.text, .slice a3 t.kids.length c3]] W (NewTy W t)) := fun W hW => from_walk t.sz t _ W _ (Nat.le_refl _) (by have := HTN.out.2; omega) (T5.out.up (bt E9.out hW)) (fun b hb => hb)
            have HSM : Hid (∀ W u va vb, TyOf W u va → TyOf W u vb → Calls Tryd.prog 21 #[va, vb] W fun e w' => e = .returned (.bool true) ∧ Below W.heap.size W w') := fun W u va vb h1 h2 => by
              have := refSame_walk u.sz u u va vb W _ (Nat.le_refl _) h1 h2 (fun b hb => hb)
              rw [Ty.same_refl] at this
              exact this
            have HEN : Hid (∀ W', Below W9.heap.size W9 W' → Below w.heap.size w W') := fun W' h' => bt B9.out.hb h'
            unfold NewTy tval at HFY HFT
            unfold SwEnd tval at HRS
            go_region_held3 (fun w' => (w'.cell? ⟨b14, 0, none⟩ = some (.int .i64 y.op) ∧ w'.cell? ⟨b14, 1, none⟩ = some (.int .i64 y.num) ∧ w'.cell? ⟨b14, 2, none⟩ = some (.string y.text) ∧ w'.cell? ⟨b14, 3, none⟩ = some (.slice a8 y.kids.length c8)) ∧ (w'.cell? ⟨b10, 0, none⟩ = some (.int .i64 t.op) ∧ w'.cell? ⟨b10, 1, none⟩ = some (.int .i64 t.num) ∧ w'.cell? ⟨b10, 2, none⟩ = some (.string t.text) ∧ w'.cell? ⟨b10, 3, none⟩ = some (.slice a3 t.kids.length c3)) ∧ (w'.cell? ⟨b2, 0, none⟩ = some (.int .i64 t.op) ∧ w'.cell? ⟨b2, 1, none⟩ = some (.int .i64 t.num) ∧ w'.cell? ⟨b2, 2, none⟩ = some (.string t.text) ∧ w'.cell? ⟨b2, 3, none⟩ = some (.slice a2 t.kids.length c2)))
              (with_reducible (first | exact HKQ.out _ F5.out | exact HKQ.out _ F4.out | exact HKQ.out _ F3.out | exact HKQ.out _ F2.out | exact HKQ.out _ F1.out | (refine HKQ.out _ ?_; repeat (first | exact Below.refl _ _ | apply bd)) | go_keep))
              (first
                | (go_at_call 22; (with_reducible refine (HFY.out _ (by (with_reducible repeat (first | exact Below.refl _ _ | apply bd)))).mono ?_); clear HFY; rintro e v4 ⟨a9, c9, rfl, ht, hb⟩; have F1 : Hid (Below W9.heap.size W9 v4) := (bt (by (with_reducible repeat (first | exact Below.refl _ _ | apply bd))) hb : Below W9.heap.size W9 v4); have T1 := Lib.hid (TyOf.new ht); clear ht hb)
                | (go_at_call 31; (with_reducible refine (HRS.out _ (bt E9.out F1.out)).mono ?_); clear HRS; rintro e v5 ⟨a10, c10, rfl, ht, hb⟩; have F2 := Lib.hid (bt F1.out hb); have T2 := Lib.hid (swaps_ty ht hb); have T1' := Lib.hid (T1.out.up hb); clear ht hb)
                | (go_at_call 21; (with_reducible refine (HSM.out _ _ _ _ T1'.out T2.out).mono ?_); clear T1' T1; rintro e v6 ⟨rfl, hb⟩; have F3 := Lib.hid (bt F2.out hb); clear hb)
                | (go_at_call 22; (with_reducible refine (HFT.out _ F3.out).mono ?_); clear HFT; rintro e v7 ⟨a11, c11, rfl, ht, hb⟩; have F4 := Lib.hid (bt F3.out hb); have T3 := Lib.hid (TyOf.new ht); clear ht hb)
                | (go_at_call 21; (with_reducible refine (HSM.out _ _ _ _ T3.out (T05.out.up (bt E9.out F4.out))).mono ?_); rintro e v8 ⟨rfl, hb⟩; have F5 := Lib.hid (bt F4.out hb); clear hb))
            all_goals go_wp2
            all_goals go_ret
            all_goals exact ⟨rfl, HEN.out _ F5.out⟩
end Go.Proofs.YthchkekegkhanaaDoor
