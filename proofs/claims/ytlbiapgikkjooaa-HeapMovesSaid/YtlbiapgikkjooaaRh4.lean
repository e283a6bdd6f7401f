/- The reference's heap: Set. -/
import Derived.Test.YtlbiapgikkjooaaRh3
namespace Go.Proofs.Ytlbiapgikkjooaa
open Go.RowKit Go.Maps Hp
set_option linter.unusedSimpArgs false
set_option linter.unusedSectionVars false
set_option linter.unusedVariables false

theorem RowZ.stored {w : World} {e : TypeId} {sz g n cap : Nat} {xs : List Value} (h : RowZ w e sz (.slice (some ⟨g, 0, none⟩) n cap) n xs) (j : Nat) (u : Value) : RowZ (w.setCell ⟨g, j, none⟩ u) e sz (.slice (some ⟨g, 0, none⟩) n cap) n (xs.set j u) :=
  (World.ownsRow.stored h j u).1
theorem ocells_set : ∀ (l : List (Ob × Value)) (j : Nat) (o : Ob × Value) (f : List Ref) (v : Value), l[j]? = some o → ocells (l.set j ({ o.1 with fields := f }, v)) = (ocells l).set (j * 4 + 1) v
  | [], j, o, f, v, h => by cases h
  | y :: l, 0, o, f, v, h => by rw [List.getElem?_cons_zero] at h; cases h; rfl
  | y :: l, j + 1, o, f, v, h => by
    rw [List.getElem?_cons_succ] at h
    rw [List.set_cons_succ, ocells, ocells, ocells_set l j o f v h, show (j + 1) * 4 + 1 = j * 4 + 1 + 1 + 1 + 1 + 1 by omega]
    rfl
/-- '[]Ref{}': a row of none in a new block. -/
theorem new_row0 (W : World) (n : Nat) : RowZ ((W.drewN n).alloc (.cells #[] 27)) 27 2 (.slice (some ⟨W.heap.size, 0, none⟩) 0 0) 0 [] :=
  ⟨rfl, .inr ⟨W.heap.size, 0, #[], rfl, Nat.zero_le _, heap_alloc_new (W.drewN n) _, Nat.le_refl _, by unfold maxLen; omega, rfl, rfl⟩⟩
section
variable {w : World} {q lim : Nat} {vl vs vp : Value} {L : List (Ob × Value)} {S : List Ref} {P : List (Int × Ref)}
/-- One object's fields lie elsewhere. -/
theorem RefIs.setOb {wr : World} (h : RefIs wr q lim vl vs vp L S P) {j : Nat} {o : Ob × Value} (ho : L[j]? = some o) {f : List Ref} {v : Value} (hr : RowZ wr 27 2 v f.length (rcells f)) (hv : ∀ k, v.ownBlock = some k → k ∉ rfoot q vl vs vp L) {g n cap : Nat} (hg : vl = .slice (some ⟨g, 0, none⟩) n cap) :
    RefIs (wr.setCell ⟨g, j * 4 + 1, none⟩ v) q lim vl vs vp (L.set j ({ o.1 with fields := f }, v)) S P := by
  have hn : n = L.length := by
    obtain ⟨ao, cap', e, _⟩ := h.rl.form
    rw [hg] at e
    cases e
    rfl
  subst hg
  subst hn
  have hs : Chg [g] wr (wr.setCell ⟨g, j * 4 + 1, none⟩ v) := chg_set wr g _ v
  have hgq : g ≠ q := fun e => h.n1 (by rw [e]; rfl)
  have hv' : ∀ k, v.ownBlock = some k → k ≠ q ∧ (Value.slice (some ⟨g, 0, none⟩) L.length cap).ownBlock ≠ some k ∧ vs.ownBlock ≠ some k ∧ vp.ownBlock ≠ some k := fun k hk => by
    have e := hv k hk
    rw [mem_rfoot] at e
    exact ⟨fun e' => e (.inl e'), fun e' => e (.inr (.inl e')), fun e' => e (.inr (.inr (.inl e'))), fun e' => e (.inr (.inr (.inr (.inl e'))))⟩
  refine ⟨(hs.block q (lt_of_block h.hdr) (by simpa using fun e => hgq e.symm)).trans h.hdr, ?_, h.rs.chg hs (fun k hk e => by simp at e; subst e; exact (h.n4 k rfl).1 hk), h.rp.chg hs (fun k hk e => by simp at e; subst e; exact (h.n4 k rfl).2 hk), ?_, h.n1, h.n2, h.n3, h.n4, h.n5, ?_⟩
  · rw [List.length_set, ocells_set L j o f v ho]
    exact h.rl.stored _ v
  · intro x hx
    rcases List.mem_or_eq_of_mem_set hx with hx | rfl
    · exact (h.rf x hx).chg hs (fun k hk e => by simp at e; subst e; exact (h.n6 x hx k hk).2.1 rfl)
    · exact hr.chg hs (fun k hk e => by simp at e; subst e; exact (hv' k hk).2.1 rfl)
  · intro x hx k hk
    rcases List.mem_or_eq_of_mem_set hx with hx | rfl
    · exact h.n6 x hx k hk
    · exact hv' k hk
def SetPost (w : World) (q lim : Nat) (vl vs vp : Value) (L : List (Ob × Value)) (S : List Ref) (P : List (Int × Ref)) (j : Nat) (o : Ob) (f : List Ref) (e : Ending) (w' : World) : Prop :=
  e = .returned (.tuple #[]) ∧ ∃ v, RefIs w' q lim vl vs vp (L.set j ({ o with fields := f }, v)) S P ∧ Chg (rfoot q vl vs vp L) w w' ∧ ∀ k, v.ownBlock = some k → w.heap.size ≤ k
theorem refSet_out (h : RefIs w q lim vl vs vp L S P) (r x : Ref) (i : Int) (hi : r.obj = false ∨ i < 0) :
    Calls Try.prog 37 #[.pointer (some ⟨q, 0, none⟩), rv r, .int .i64 i, rv x] w fun e w' => e = .returned (.tuple #[]) ∧ Below w.heap.size w w' := by
  clear h
  obtain ⟨b, n⟩ := r
  unfold rv
  go_enter Try.func37, Try.ntmps37
  cases b
  · clear hi
    go_wp2
    go_quiet (fail)
    go_wp2
    go_end0
    exact ⟨rfl, below_drewN (((Below.refl _ _).alloc (Nat.le_refl _) _).alloc (by simp) _) _⟩
  · have hi2 : i < 0 := by simpa using hi
    have hd : decide (0 ≤ i) = false := decide_eq_false (by omega)
    clear hi
    go_wp2
    go_quiet (fail)
    go_wp2
    go_end0
    exact ⟨rfl, below_drewN (((Below.refl _ _).alloc (Nat.le_refl _) _).alloc (by simp) _) _⟩
set_option maxRecDepth 100000 in
set_option maxHeartbeats 1600000 in
theorem refSet_over (h : RefIs w q lim vl vs vp L S P) (j k : Nat) (x : Ref) (o : Ob × Value) (ho : L[j]? = some o) (hL : L.length ≤ 1000000) (hf : o.1.fields.length ≤ 1000000) (hk : o.1.fields.length ≤ k) :
    Calls Try.prog 37 #[.pointer (some ⟨q, 0, none⟩), rv ⟨true, j⟩, .int .i64 (k : Int), rv x] w fun e w' => e = .returned (.tuple #[]) ∧ Below w.heap.size w w' := by
  have jl := (List.getElem?_eq_some_iff.1 ho).1
  have HH := Lib.hid (fun a b => ((h.alloc a).alloc b))
  have HF := Lib.hid (h.rf o (List.mem_of_getElem? ho))
  have c1 : ∀ a b, ((w.alloc a).alloc b).cell? ⟨q, 1, none⟩ = some vl := fun a b => ((h.alloc a).alloc b).c1
  have hrl := fun a b => ((h.alloc a).alloc b).rl
  obtain ⟨al, cl, hvl, l1, l2, l3, l4⟩ := h.rl.form
  obtain ⟨g, rfl⟩ : ∃ g, al = some ⟨g, 0, none⟩ := by
    cases al with
    | none => have := l3 rfl; omega
    | some a => obtain ⟨g, rfl, _⟩ := l4 a rfl; exact ⟨g, rfl⟩
  have HVL := Lib.hid hvl
  obtain ⟨e0, e1, e2, e3⟩ := ocells_get ho
  have hlen := ocells_length L
  have c2 : ∀ a b, ((w.alloc a).alloc b).cell? ⟨g, j * 4 + 1, none⟩ = some o.2 := fun a b => by
    have := hrl a b
    rw [hvl] at this
    rw [this.cellAt _ (by omega)]; exact e1
  obtain ⟨af, cf, hv, f1, f2, f3, f4⟩ := (h.rf o (List.mem_of_getElem? ho)).form
  rw [hv] at c2
  rw [hvl] at c1
  have HV := Lib.hid hv
  have k0 : (0 : Int) ≤ (k : Int) := by omega
  have j0 : (0 : Int) ≤ (j : Int) := by omega
  have j1 : (j : Int) < (L.length : Int) := by omega
  have hd : decide ((0 : Int) ≤ (k : Int)) = true := decide_eq_true (by omega)
  obtain ⟨nf, hnf⟩ : ∃ n, n = o.1.fields.length := ⟨_, rfl⟩
  rw [← hnf] at c2
  have hd2 : decide (k < nf) = false := decide_eq_false (by omega)
  clear h hrl hvl l1 l2 l3 l4 e0 e1 e2 e3 hlen hv f1 f2 f3 f4 hk hf hL jl ho hnf
  unfold rv
  go_enter Try.func37, Try.ntmps37
  go_wp2
  go_quiet (fail)
  go_wp2
  go_end0
  exact ⟨rfl, below_drewN (((Below.refl _ _).alloc (Nat.le_refl _) _).alloc (by simp) _) _⟩
set_option maxRecDepth 100000 in
set_option maxHeartbeats 1600000 in
theorem refSet_in (h : RefIs w q lim vl vs vp L S P) (j k : Nat) (x : Ref) (o : Ob × Value) (ho : L[j]? = some o) (hL : L.length ≤ 1000000) (hf : o.1.fields.length ≤ 1000000) (hk : k < o.1.fields.length) :
    Calls Try.prog 37 #[.pointer (some ⟨q, 0, none⟩), rv ⟨true, j⟩, .int .i64 (k : Int), rv x] w (SetPost w q lim vl vs vp L S P j o.1 (o.1.fields.set k x)) := by
  have jl := (List.getElem?_eq_some_iff.1 ho).1
  have HH := Lib.hid (fun a b => ((h.alloc a).alloc b))
  have HF := Lib.hid (h.rf o (List.mem_of_getElem? ho))
  have c1 : ∀ a b, ((w.alloc a).alloc b).cell? ⟨q, 1, none⟩ = some vl := fun a b => ((h.alloc a).alloc b).c1
  have hrl := fun a b => ((h.alloc a).alloc b).rl
  obtain ⟨al, cl, hvl, l1, l2, l3, l4⟩ := h.rl.form
  obtain ⟨g, rfl⟩ : ∃ g, al = some ⟨g, 0, none⟩ := by
    cases al with
    | none => have := l3 rfl; omega
    | some a => obtain ⟨g, rfl, _⟩ := l4 a rfl; exact ⟨g, rfl⟩
  have HVL := Lib.hid hvl
  obtain ⟨e0, e1, e2, e3⟩ := ocells_get ho
  have hlen := ocells_length L
  have c2 : ∀ a b, ((w.alloc a).alloc b).cell? ⟨g, j * 4 + 1, none⟩ = some o.2 := fun a b => by
    have := hrl a b
    rw [hvl] at this
    rw [this.cellAt _ (by omega)]; exact e1
  obtain ⟨af, cf, hv, f1, f2, f3, f4⟩ := (h.rf o (List.mem_of_getElem? ho)).form
  rw [hv] at c2
  rw [hvl] at c1
  have HV := Lib.hid hv
  have k0 : (0 : Int) ≤ (k : Int) := by omega
  have j0 : (0 : Int) ≤ (j : Int) := by omega
  have j1 : (j : Int) < (L.length : Int) := by omega
  have hd : decide ((0 : Int) ≤ (k : Int)) = true := decide_eq_true (by omega)
  have k1 : (k : Int) < (o.1.fields.length : Int) := by omega
  have hnf2 : (o.1.fields.length : Int) ≤ 1000000 := by omega
  obtain ⟨nf, hnf⟩ : ∃ n, n = o.1.fields.length := ⟨_, rfl⟩
  rw [← hnf] at c2 k1 hnf2
  have hd2 : decide (k < nf) = true := decide_eq_true (by omega)
  obtain ⟨gf, rfl⟩ : ∃ g, af = some ⟨g, 0, none⟩ := by
    cases af with
    | none => have := f3 rfl; omega
    | some a => obtain ⟨g, rfl, _⟩ := f4 a rfl; exact ⟨g, rfl⟩
  have HGL : Hid (g < w.heap.size) := h.rl.lt (k := g) (by rw [hvl]; rfl)
  have HJ := Lib.hid jl
  have HO := Lib.hid ho
  have HNF := Lib.hid hnf
  clear h hrl hvl l1 l2 l3 l4 e0 e1 e2 e3 hlen hv f1 f2 f3 f4 hk hf hL jl ho hnf
  unfold rv
  go_enter Try.func37, Try.ntmps37
  go_wp2
  go_quiet (fail)
  go_wp2
  generalize hW : ((w.alloc (.cells #[.bool true, .int .i64 (j : Int)] 27)).alloc (.cells #[.bool x.obj, .int .i64 x.n] 27)).drewN nq = W
  have HW : Hid (RefIs W q lim vl vs vp L S P) := by rw [← hW]; exact (HH.out _ _).drewN _
  have HWF : Hid (RowZ W 27 2 o.2 o.1.fields.length (rcells o.1.fields)) := HW.out.rf o (List.mem_of_getElem? HO.out)
  have HSZ : Hid (W.heap.size = w.heap.size + 2) := by rw [← hW]; show _ = _; simp
  have C1 : W.cell? ⟨q, 1, none⟩ = some (.slice (some ⟨g, 0, none⟩) L.length cl) := by rw [HW.out.c1, HVL.out]
  have C2 : W.cell? ⟨g, j * 4 + 1, none⟩ = some (.slice (some ⟨gf, 0, none⟩) nf cf) := by rw [← hW]; simpa using c2 _ _
  have D1 : W.cell? ⟨w.heap.size, 1, none⟩ = some (.int .i64 (j : Int)) := by rw [← hW]; simp
  have D2 : W.cell? ⟨w.heap.size + 1, 0, none⟩ = some (.bool x.obj) := by rw [← hW]; simp
  have D3 : W.cell? ⟨w.heap.size + 1, 1, none⟩ = some (.int .i64 x.n) := by rw [← hW]; simp
  have HCW : Hid (Chg [] w W) := by rw [← hW]; exact (((Chg.refl [] w).alloc _).alloc _).drewN _
  have n1 : W.heap.size ≠ q := by have := HW.out.lt q (mem_rfoot.2 (.inl rfl)); omega
  have n2 : W.heap.size ≠ g := by have := HW.out.rl.lt (k := g) (by rw [HVL.out]; rfl); omega
  have n3 : W.heap.size ≠ w.heap.size := by have := HSZ.out; omega
  have n4 : W.heap.size ≠ w.heap.size + 1 := by have := HSZ.out; omega
  have L1 : Hid (q < W.heap.size) := HW.out.lt q (mem_rfoot.2 (.inl rfl))
  have L2 : Hid (g < W.heap.size) := HW.out.rl.lt (k := g) (by rw [HVL.out]; rfl)
  have L3 : Hid (w.heap.size + 1 < W.heap.size) := by have := HSZ.out; show _ < _; omega
  have HGV : Hid (∀ o', Gives ((W.drewN 1).alloc o') (.slice (some ⟨gf, 0, none⟩) nf cf) nf (rcells o.1.fields)) := fun o' => by
    have h := (HWF.out.chg ((Chg.refl [] W).drewN 1) (fun _ _ => by simp)).chg ((Chg.refl [] _).alloc o') (fun _ _ => by simp)
    rw [HV.out, ← HNF.out] at h
    exact Gives.of_row h
  have HK : Hid (∀ o' w' v', Appended ((W.drewN 1).alloc o') (.slice (some ⟨W.heap.size, 0, none⟩) 0 0) w' v' → w'.cell? ⟨q, 1, none⟩ = some (.slice (some ⟨g, 0, none⟩) L.length cl) ∧ w'.cell? ⟨g, j * 4 + 1, none⟩ = some (.slice (some ⟨gf, 0, none⟩) nf cf) ∧
      w'.cell? ⟨w.heap.size, 1, none⟩ = some (.int .i64 (j : Int)) ∧ w'.cell? ⟨w.heap.size + 1, 0, none⟩ = some (.bool x.obj) ∧ w'.cell? ⟨w.heap.size + 1, 1, none⟩ = some (.int .i64 x.n) ∧ Chg [] W w') := fun o' w' v' ha => by
    have hc : Chg [] W w' := (((Chg.refl [] W).drewN 1).alloc o').trans ha.chg (fun k hk => .inr (by simp [Value.ownBlock] at hk; omega))
    exact ⟨(hc.cell (p := ⟨q, 1, none⟩) L1.out (by simp)).trans C1, (hc.cell (p := ⟨g, _, none⟩) L2.out (by simp)).trans C2, (hc.cell (p := ⟨w.heap.size, 1, none⟩) (by have := L3.out; show w.heap.size < _; omega) (by simp)).trans D1, (hc.cell (p := ⟨w.heap.size + 1, 0, none⟩) L3.out (by simp)).trans D2, (hc.cell (p := ⟨w.heap.size + 1, 1, none⟩) L3.out (by simp)).trans D3, hc⟩
  clear hW c1 c2
  go_region_held3 (fun w' => w'.cell? ⟨q, 1, none⟩ = some (.slice (some ⟨g, 0, none⟩) L.length cl) ∧ w'.cell? ⟨g, j * 4 + 1, none⟩ = some (.slice (some ⟨gf, 0, none⟩) nf cf) ∧ w'.cell? ⟨w.heap.size, 1, none⟩ = some (.int .i64 (j : Int))) (go_keep)
    ((refine step_apps (by rfl) _ _ 57 rfl Try.underlying57 infoRef rfl (by omega) (by rfl) (new_row0 W 1) (by rfl) (HGV.out _) (by rw [rcells_length, HNF.out]) (rcells_one _) (by omega) (by omega) ?_; intro ao2 cap2 w' hr' ha'; obtain ⟨k1, k2, k3, k4, k5, hc⟩ := HK.out _ _ _ ha'; have HC2 := Lib.hid hc; have HR2 := Lib.hid hr'; have HA2 := Lib.hid ha'; clear hr' ha' hc))
  obtain ⟨g8, rfl, hg8⟩ : ∃ g8, ao2 = some ⟨g8, 0, none⟩ ∧ W.heap.size ≤ g8 := by
    obtain ⟨a, c, e, _, _, h0, h1⟩ := HR2.out.form
    cases e
    cases ao2 with
    | none => have := h0 rfl; have := HNF.out; omega
    | some a =>
      obtain ⟨g8, rfl, _⟩ := h1 a rfl
      refine ⟨g8, rfl, ?_⟩
      rcases HA2.out.out (k := g8) rfl with e | e
      · simp [Value.ownBlock] at e; omega
      · simp at e; omega
  have hlen := rcells_length o.1.fields
  obtain ⟨r, hr⟩ : ∃ r, o.1.fields[k]? = some r := ⟨_, List.getElem?_eq_getElem (by have := HNF.out; omega)⟩
  obtain ⟨r0, r1⟩ := rcells_get hr
  have d0 : w'.cell? ⟨g8, k * 2, none⟩ = some (.bool r.obj) := by rw [HR2.out.cellAt _ (by rw [List.nil_append, hlen]; have := HNF.out; omega), List.nil_append]; exact r0
  have d1 : w'.cell? ⟨g8, k * 2 + 1, none⟩ = some (.int .i64 r.n) := by rw [HR2.out.cellAt _ (by rw [List.nil_append, hlen]; have := HNF.out; omega), List.nil_append]; exact r1
  have z0 : w'.frozen? ⟨g8, k * 2, none⟩ = false := World.ownsRow.frozenAt HR2.out _
  have z1 : w'.frozen? ⟨g8, k * 2 + 1, none⟩ = false := World.ownsRow.frozenAt HR2.out _
  have k1' : (k : Int) < (0 + nf : Nat) := by omega
  have HG8 := Lib.hid hg8
  clear hlen hr r0 r1 hg8
  go_wp2
  generalize hW2 : (w'.setCell ⟨g8, k * 2, none⟩ (.bool x.obj)).setCell ⟨g8, k * 2 + 1, none⟩ (.int .i64 x.n) = W2
  have HC3 : Hid (Chg [] W W2) := by
    rw [← hW2]
    have h1 : Chg [g8] w' ((w'.setCell ⟨g8, k * 2, none⟩ (.bool x.obj)).setCell ⟨g8, k * 2 + 1, none⟩ (.int .i64 x.n)) := (chg_set w' g8 _ _).setCell (.inl (by simp)) _
    exact HC2.out.trans h1 (fun i hi => .inr (by simp at hi; subst hi; exact HG8.out))
  have HR8 : Hid (RowZ W2 27 2 (.slice (some ⟨g8, 0, none⟩) nf cap2) (o.1.fields.set k x).length (rcells (o.1.fields.set k x))) := by
    rw [← hW2, rcells_set, List.length_set, ← HNF.out]
    have h := HR2.out
    rw [List.nil_append, Nat.zero_add] at h
    exact (h.stored _ _).stored _ _
  have HR9 : Hid (RefIs W2 q lim vl vs vp L S P) := HW.out.chg HC3.out (fun _ _ => by simp)
  have E1 : W2.cell? ⟨q, 1, none⟩ = some (.slice (some ⟨g, 0, none⟩) L.length cl) := by rw [HR9.out.c1, HVL.out]
  have E2 : W2.cell? ⟨g, j * 4 + 1, none⟩ = some (.slice (some ⟨gf, 0, none⟩) nf cf) := (HC3.out.cell (p := ⟨g, _, none⟩) L2.out (by simp)).trans C2
  have E3 : W2.cell? ⟨w.heap.size, 1, none⟩ = some (.int .i64 (j : Int)) := (HC3.out.cell (p := ⟨w.heap.size, 1, none⟩) (by have := L3.out; show w.heap.size < _; omega) (by simp)).trans D1
  have E4 : W2.frozen? ⟨g, j * 4 + 1, none⟩ = false := by
    have h := HR9.out.rl
    rw [HVL.out] at h
    exact World.ownsRow.frozenAt h _
  have m1 : g ≠ q := fun e => HW.out.n1 (by rw [HVL.out, e]; rfl)
  have m2 : g ≠ w.heap.size := by have := HGL.out; omega
  clear hW2 k1 k2 k3 k4 k5 d0 d1 z0 z1 C1 C2 D1 D2 D3
  go_region_held3 (fun w' => w'.cell? ⟨q, 1, none⟩ = some (.slice (some ⟨g, 0, none⟩) L.length cl) ∧ w'.cell? ⟨w.heap.size, 1, none⟩ = some (.int .i64 (j : Int))) (go_keep) (fail)
  go_end0
  have hn8 : ∀ i, (Value.slice (some ⟨g8, 0, none⟩) nf cap2).ownBlock = some i → W.heap.size ≤ i := fun i hi => by
    simp [Value.ownBlock] at hi
    subst hi
    exact HG8.out
  have hfin := HR9.out.setOb HO.out HR8.out (fun i hi hm => by have := hn8 i hi; have := HW.out.lt i hm; omega) HVL.out
  refine ⟨rfl, _, hfin.drewN 1, ?_, fun i hi => ?_⟩
  · have h1 : Chg (rfoot q vl vs vp L) w W2 := (HCW.out.mono (by simp)).trans (HC3.out.mono (F' := rfoot q vl vs vp L) (by simp)) (fun _ h => .inl h)
    exact (h1.setCell (p := ⟨g, _, none⟩) (.inl (mem_rfoot.2 (.inr (.inl (by rw [HVL.out]; rfl))))) _).drewN 1
  · have := hn8 i hi
    have := HSZ.out
    omega
end
end Go.Proofs.Ytlbiapgikkjooaa
