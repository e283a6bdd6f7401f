/- The reference's stack becomes another row; both heaps as one, call by call. -/
import Derived.Test.YtlbiapgikkjooaaAll
import Derived.Test.YtlbiapgikkjooaaWords
namespace Go.Proofs.Ytlbiapgikkjooaa
open Go.RowKit Go.Maps Hp
set_option linter.unusedSimpArgs false
set_option linter.unusedSectionVars false
set_option linter.unusedVariables false

section
variable {N : Bd} {m c : Nat} {w0 w w' : World} {p q lim : Nat} {A B : AH} {st : List Int} {φ : Nat → Nat} {vl vs vp : Value} {L : List (Ob × Value)} {S : List Ref} {P : List (Int × Ref)}
theorem RefIs.appS {vs' : Value} {S' : List Ref} (h : RefIs w q lim vl vs vp L S P) (hr : RowZ w' 27 2 vs' S'.length (rcells S')) (ha : Appended w vs w' vs') :
    RefIs (w'.setCell ⟨q, 2, none⟩ vs') q lim vl vs' vp L S' P ∧ Chg (rfoot q vl vs vp L) w (w'.setCell ⟨q, 2, none⟩ vs') := by
  have hc := ha.chg
  have hv : ∀ k, vs'.ownBlock = some k → k ≠ q ∧ vl.ownBlock ≠ some k ∧ vp.ownBlock ≠ some k ∧ ∀ x ∈ L, x.2.ownBlock ≠ some k := fun k hk => by
    rcases ha.out hk with e | e
    · exact ⟨fun e' => h.n2 (e' ▸ e), fun e' => (h.n4 k e').1 e, fun e' => h.n5 k e e', fun x hx e' => (h.n6 x hx k e').2.2.1 e⟩
    · have e := h.foot_new e
      rw [mem_rfoot] at e
      exact ⟨fun e' => e (.inl e'), fun e' => e (.inr (.inl e')), fun e' => e (.inr (.inr (.inr (.inl e')))), fun x hx e' => e (.inr (.inr (.inr (.inr ⟨x, hx, e'⟩))))⟩
  have hk : ∀ {k : Nat}, k ∈ vs.ownBlock.toList → vs.ownBlock = some k := fun h => by simpa using h
  have hd : w'.heap[q]? = some (.cells #[.int .i64 lim, vl, vs, vp] 60 (0, 0)) := (hc.block q (lt_of_block h.hdr) (fun e => h.n2 (hk e))).trans h.hdr
  have hs : Chg [q] w' (w'.setCell ⟨q, 2, none⟩ vs') := chg_set w' q 2 vs'
  refine ⟨⟨hdr_set hd, (h.rl.chg hc (fun k hk' e => (h.n4 k hk').1 (hk e))).chg hs (fun k hk' e => by simp at e; exact h.n1 (e ▸ hk')), hr.chg hs (fun k hk' e => by simp at e; exact (hv k hk').1 e), (h.rp.chg hc (fun k hk' e => h.n5 k (hk e) hk')).chg hs (fun k hk' e => by simp at e; exact h.n3 (e ▸ hk')),
    fun x hx => ((h.rf x hx).chg hc (fun k hk' e => (h.n6 x hx k hk').2.2.1 (hk e))).chg hs (fun k hk' e => by simp at e; exact (h.n6 x hx k hk').1 e), h.n1, fun e => (hv q e).1 rfl, h.n3, fun k hk' => ⟨fun e => (hv k e).2.1 hk', (h.n4 k hk').2⟩, fun k hk' => (hv k hk').2.2.1,
    fun x hx k hk' => ⟨(h.n6 x hx k hk').1, (h.n6 x hx k hk').2.1, fun e => (hv k e).2.2.2 x hx hk', (h.n6 x hx k hk').2.2.2⟩⟩, ?_⟩
  exact (hc.mono (F' := rfoot q vl vs vp L) (fun k e => mem_rfoot.2 (.inr (.inr (.inl (hk e)))))).setCell (p := ⟨q, 2, none⟩) (.inl (mem_rfoot.2 (.inl rfl))) _
theorem within_s {vs' : Value} {n : Nat} (h : ∀ k, vs'.ownBlock = some k → vs.ownBlock = some k ∨ n ≤ k) : Within (rfoot q vl vs vp L) (rfoot q vl vs' vp L) n := fun k hk => by
  rcases mem_rfoot.1 hk with e | e | e | e | e
  · exact .inl (mem_rfoot.2 (.inl e))
  · exact .inl (mem_rfoot.2 (.inr (.inl e)))
  · exact (h k e).imp (fun e => mem_rfoot.2 (.inr (.inr (.inl e)))) id
  · exact .inl (mem_rfoot.2 (.inr (.inr (.inr (.inl e)))))
  · exact .inl (mem_rfoot.2 (.inr (.inr (.inr (.inr e)))))
structure StackAt (N : Bd) (w0 : World) (p q : Nat) (A : AH) (st : List Int) (φ : Nat → Nat) (m c : Nat) (B : AH) (w : World) (aS : Option Addr) (s cS : Nat) : Prop where
  len : s = B.stack.length
  at_ : ∀ W, Below w.heap.size w W → W.cell? ⟨q, 2, none⟩ = some (.slice aS s cS) ∧ RowZ W 27 2 (.slice aS s cS) s (rcells B.stack) ∧ W.frozen? ⟨q, 2, none⟩ = false
  ql : q < w.heap.size
  own : ∀ k, (Value.slice aS s cS).ownBlock = some k → k < w.heap.size ∧ k ≠ q
  nil : aS = none → cS = 0
  cap : s ≤ cS
  bx : ∀ b o, N.x = some (b, o) → (Value.slice aS s cS).ownBlock ≠ some b
  app : ∀ W w1 ao cap r, Below w.heap.size w W → RowZ w1 27 2 (.slice ao (s + 1) cap) (s + 1) (rcells B.stack ++ [.bool r.obj, .int .i64 r.n]) → Appended W (.slice aS s cS) w1 (.slice ao (s + 1) cap) → Duo N w0 p q A st φ m (c + 1) (B.push r) (w1.setCell ⟨q, 2, none⟩ (.slice ao (s + 1) cap))
  cut : ∀ w1 v n, Below w.heap.size w w1 → RowZ w1 27 2 v (B.drop n).stack.length (rcells (B.drop n).stack) → (∀ k, v.ownBlock = some k → w.heap.size ≤ k) → Duo N w0 p q A st φ m c (B.drop n) (w1.setCell ⟨q, 2, none⟩ v)
theorem stack_at (h : Duo N w0 p q A st φ m c B w) : ∃ aS s cS, StackAt N w0 p q A st φ m c B w aS s cS := by
  obtain ⟨F1, F2, L, P, h⟩ := h
  obtain ⟨vl, vs, vp, hrf, hF⟩ := h.r
  obtain ⟨aS, cS, hvs, hcap, _, hnil, _⟩ := hrf.rs.form
  subst hvs
  refine ⟨aS, B.stack.length, cS, rfl, fun W hW => ⟨(hrf.later hW).c2, (hrf.later hW).rs, (hrf.later hW).fr 2⟩, lt_of_block hrf.hdr, fun k hk => ⟨hrf.rs.lt hk, fun e => hrf.n2 (e ▸ hk)⟩, fun e => (hnil e).2, hcap, fun b o hb e => (h.x b o hb).2.2 (hF ▸ mem_rfoot.2 (.inr (.inr (.inl e)))), fun W w1 ao cap r hW hr ha => ?_, fun w1 v n hW hr hv => ?_⟩
  · subst hF
    have e1 : (B.push r).stack = B.stack ++ [r] := rfl
    obtain ⟨g1, g2⟩ := (hrf.later hW).appS (S' := (B.push r).stack) (by rw [e1, rcells_append, List.length_append]; exact hr) ha
    have s1 := h.s.mono (Nat.le_succ c)
    refine h.ref (B' := B.push r) ⟨vl, _, vp, g1, rfl⟩ ⟨s1.objs, s1.pins, s1.nd, s1.bL, by rw [e1, List.length_append, List.length_singleton]; have := h.s.bS; omega, s1.bP, s1.bO⟩ (((Chg.refl _ w).belowTrans hW).trans g2 (fun k hk => .inl hk)) (within_s fun k hk => ?_)
    rcases ha.out hk with e | e
    · exact .inl e
    · exact .inr (by have := hW.size; omega)
  · subst hF
    have h1 := hrf.later hW
    have g1 := h1.setS (S' := (B.drop n).stack) hr (fun k hk => .inr fun hm => by have := hv k hk; have := hrf.lt k hm; omega)
    refine h.ref (B' := B.drop n) ⟨vl, _, vp, g1, rfl⟩ ⟨h.s.objs, h.s.pins, h.s.nd, h.s.bL, by show (B.stack.take _).length ≤ c; rw [List.length_take]; have := h.s.bS; omega, h.s.bP, h.s.bO⟩ ((((Chg.refl (rfoot q vl _ vp L) w).belowTrans hW)).setCell (p := ⟨q, 2, none⟩) (.inl (mem_rfoot.2 (.inl rfl))) _) (within_s fun k hk => .inr (hv k hk))
theorem app_keep {W w1 : World} {v v' : Value} (ha : Appended W v w1 v') {b : Nat} (hb : b < W.heap.size) (hv : v.ownBlock ≠ some b) (o : Nat) : w1.cell? ⟨b, o, none⟩ = W.cell? ⟨b, o, none⟩ ∧ w1.frozen? ⟨b, o, none⟩ = W.frozen? ⟨b, o, none⟩ :=
  ⟨ha.chg.cell (p := ⟨b, o, none⟩) hb (by simpa using hv), ha.chg.frozen (p := ⟨b, o, none⟩) hb (by simpa using hv)⟩

/-- Both as one; the program's ahead. -/
def Half (N : Bd) (w0 : World) (p q m c : Nat) (A B : AH) (w : World) : Prop := ∃ φ, Duo N w0 p q A (A.stack.map (word φ)) φ m c B w
theorem One.half (h : One N w0 p q m c A w) : Half N w0 p q m c A A w := h
theorem Half.one (h : Half N w0 p q m c A A w) : One N w0 p q m c A w := h
theorem One.wf (h : One N w0 p q m c A w) : A.Wf := by obtain ⟨φ, h⟩ := h; exact h.wf
theorem One.below (h : One N w0 p q m c A w) : Below N.n w0 w ∧ N.n ≤ w.heap.size := by obtain ⟨φ, F1, F2, L, P, h⟩ := h; exact ⟨h.b, h.n⟩
theorem One.later (h : One N w0 p q m c A w) (hb : Below w.heap.size w w') : One N w0 p q m c A w' := by obtain ⟨φ, h⟩ := h; exact ⟨φ, h.later hb⟩
theorem One.mono {m' c' : Nat} (h : One N w0 p q m c A w) (hm : m ≤ m') (hc : c ≤ c') : One N w0 p q m' c' A w := by obtain ⟨φ, h⟩ := h; exact ⟨φ, h.mono hm hc⟩
theorem One.sizes (h : One N w0 p q m c A w) : A.stack.length ≤ c ∧ A.limit ≤ 4194304 := by
  obtain ⟨φ, F1, F2, L, P, h⟩ := h
  obtain ⟨bp, np, vc, vs, cells, pins, h1, h2, h3, h4, h5⟩ := h.h
  exact ⟨h.s.bS, h5⟩
theorem one_live (h : One N w0 p q m c A w) (hm : m ≤ 1000) (hc : c ≤ 1000) : Calls Try.prog 18 #[.pointer (some ⟨p, 0, none⟩)] w fun e w' => e = .returned (.int .i64 (A.live : Int)) ∧ One N w0 p q m c A w' := by
  have := h.sizes.1
  obtain ⟨φ, h⟩ := h
  exact (duo_live h (by omega) (by omega)).mono fun e w' he => he
theorem one_rlive (h : One N w0 p q m c A w) (hc : c ≤ 1000) : Calls Try.prog 42 #[.pointer (some ⟨q, 0, none⟩)] w fun e w' => e = .returned (.int .i64 (A.live : Int)) ∧ One N w0 p q m c A w' := by
  have hw := h.wf
  have h0 := h
  obtain ⟨φ, h⟩ := h
  exact (duo_rlive h (by omega) hw).mono fun e w' he => ⟨he.1, h0.later he.2⟩
theorem one_all (h : One N w0 p q m c A w) (hc : c ≤ 1000) : Calls Try.prog 43 #[.pointer (some ⟨p, 0, none⟩), .pointer (some ⟨q, 0, none⟩)] w fun e w' => e = .returned (.bool true) ∧ One N w0 p q m c A w' := by
  have h0 := h
  obtain ⟨φ, h⟩ := h
  exact (all_any h (by omega)).mono fun e w' he => ⟨he.1, h0.later he.2⟩
theorem One.alone (h : One N w0 p q m c A w) : One ⟨N.n, none⟩ w0 p q m c A w := by obtain ⟨φ, h⟩ := h; exact ⟨φ, h.alone⟩
theorem box6 {b : Nat} {x0 x1 x2 x3 x4 x5 : Value} {t : TypeId} {W : World} (h : W.heap[b]? = some (.cells #[x0, x1, x2, x3, x4, x5] t (0, 0))) : W.cell? ⟨b, 0, none⟩ = some x0 ∧ W.cell? ⟨b, 1, none⟩ = some x1 ∧ W.cell? ⟨b, 2, none⟩ = some x2 ∧ W.cell? ⟨b, 3, none⟩ = some x3 ∧ W.cell? ⟨b, 4, none⟩ = some x4 ∧ W.cell? ⟨b, 5, none⟩ = some x5 ∧ b < W.heap.size :=
  ⟨by simp [World.cell?, h], by simp [World.cell?, h], by simp [World.cell?, h], by simp [World.cell?, h], by simp [World.cell?, h], by simp [World.cell?, h], lt_of_block h⟩
/-- All the calls that only look, at any later world. -/
theorem tp_any (h : Duo N w0 p q A (A.stack.map (word φ)) φ m c B w) (W : World) (k : Int) (hW : Below w.heap.size w W) : Calls Try.prog 21 #[.pointer (some ⟨p, 0, none⟩), .int .i64 k] W fun e w' => e = .returned (.int .i64 (word φ (A.topI k))) ∧ Below w.heap.size w w' :=
  (calls_below (duo_top (h.later hW) k)).mono fun e w' he => ⟨he.1, hW.trans (he.2.mono hW.size)⟩
theorem rt_any (h : Duo N w0 p q A st φ m c B w) (hc : c ≤ 1000) (W : World) (k : Int) (hW : Below w.heap.size w W) : Calls Try.prog 35 #[.pointer (some ⟨q, 0, none⟩), .int .i64 k] W fun e w' => e = .returned (.agg #[.bool (B.topI k).obj, .int .i64 (B.topI k).n]) ∧ Below w.heap.size w w' :=
  (duo_rtop (h.later hW) (by omega) k).mono fun e w' he => ⟨he.1, hW.trans (he.2.mono hW.size)⟩
theorem fd_any (h : Duo N w0 p q A (A.stack.map (word φ)) φ m c B w) {r : Ref} (hr : A.Ok r) (W : World) (k : Int) (hW : Below w.heap.size w W) : Calls Try.prog 25 #[.pointer (some ⟨p, 0, none⟩), .int .i64 (word φ r), .int .i64 k] W fun e w' => e = .returned (.int .i64 (word φ (A.fieldI r k))) ∧ Below w.heap.size w w' :=
  (calls_below (duo_field (h.later hW) hr k)).mono fun e w' he => ⟨he.1, hW.trans (he.2.mono hW.size)⟩
theorem ok_there (hwf : A.Wf) {r : Ref} (hr : A.Ok r) : r.obj = true → ∃ j : Nat, r.n = j ∧ j < A.objs.length := fun ho => by
  have h0 := ok_ix hr ho
  refine ⟨r.n.toNat, by omega, ?_⟩
  exact hwf.ix_lt hr ho
theorem rf_any (h : Duo N w0 p q A st φ m c B w) (hc : c ≤ 1000) {r : Ref} (hr : r.obj = true → ∃ j : Nat, r.n = j ∧ j < B.objs.length) (W : World) (k : Int) (hW : Below w.heap.size w W) : Calls Try.prog 36 #[.pointer (some ⟨q, 0, none⟩), .agg #[.bool r.obj, .int .i64 r.n], .int .i64 k] W fun e w' => e = .returned (.agg #[.bool (B.fieldI r k).obj, .int .i64 (B.fieldI r k).n]) ∧ Below w.heap.size w w' :=
  (duo_rfield (h.later hW) (by omega) hr k).mono fun e w' he => ⟨he.1, hW.trans (he.2.mono hW.size)⟩
/-- What a round leaves. -/
def MvNext (N : Nat) (w0 : World) (p q n i : Nat) (w : World) : Prop := ∃ A : AH, A.limit = n ∧ One ⟨N, none⟩ w0 p q (i + 1) (i + 1) A w
theorem mv_next {n i m c : Nat} (h : Duo N w0 p q A st φ m c A w) (hst : st = A.stack.map (word φ)) (hn : A.limit = n) (hm : m ≤ i + 1) (hc : c ≤ i + 1) : MvNext N.n w0 p q n i w := by
  subst hst
  exact ⟨A, hn, φ, (h.mono hm hc).alone⟩
theorem push_ok (hwf : A.Wf) {r : Ref} (hr : A.Ok r) : ∀ r' ∈ (A.push r).stack, A.Ok r' := fun r' h => by
  rcases List.mem_append.1 h with h | h
  · exact hwf.ok_root (.inl h)
  · rw [List.mem_singleton] at h
    subst h
    exact hr
theorem duo_pushed {r' : Ref} (h : Duo N w0 p q A (A.stack.map (word φ) ++ [word φ r']) φ m c B w) {r : Ref} (he : r' = r) (hr : A.Ok r) : Duo N w0 p q (A.push r) ((A.push r).stack.map (word φ)) φ m c B w := by
  subst he
  exact h.stack rfl rfl rfl (by show _ = (A.stack ++ [r']).map (word φ); simp) (push_ok h.wf hr)
theorem duo_dropped {k : Nat} (h : Duo N w0 p q A ((A.stack.map (word φ)).take ((A.stack.map (word φ)).length - k)) φ m c B w) : Duo N w0 p q (A.drop k) ((A.drop k).stack.map (word φ)) φ m c B w :=
  h.stack rfl rfl rfl (by show _ = (A.stack.take (A.stack.length - k)).map (word φ); rw [List.map_take, List.length_map]) (fun r hr => h.wf.ok_root (.inl (List.mem_of_mem_take hr)))
theorem wr_range (n : Int) : -4611686018427387904 ≤ wr n ∧ wr n ≤ 4611686018427387903 := by
  have h1 := wr_ge n
  have h2 := wr_le n
  omega
theorem ri_any {W : World} (n : Int) (hW : Below w.heap.size w W) : Calls Try.prog 13 #[.int .i64 n] W fun e w' => e = .returned (.agg #[.bool false, .int .i64 (wr n)]) ∧ Below w.heap.size w w' :=
  (refImm_any n W).mono fun e w' he => ⟨he.1, hW.trans (he.2.mono hW.size)⟩
theorem pop_back {l : List Int} {x : Int} (h : Duo N w0 p q A ((l ++ [x]).take ((l ++ [x]).length - 1)) φ m c B w) : Duo N w0 p q A l φ m c B w := by
  have e : (l ++ [x]).take ((l ++ [x]).length - 1) = l := by simp
  rwa [e] at h
end
end Go.Proofs.Ytlbiapgikkjooaa
