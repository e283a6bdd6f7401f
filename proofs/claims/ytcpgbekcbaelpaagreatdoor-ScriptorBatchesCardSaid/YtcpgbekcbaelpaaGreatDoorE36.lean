/- Texts of the proof, in build order: StBr, StBp, StBs. -/
import Derived.Test.YtcpgbekcbaelpaaGreatDoorE35
import Derived.Test.YtcpgbekcbaelpaaGreatDoorE17
set_option linter.unusedVariables false
set_option linter.unusedSimpArgs false
set_option linter.unusedSectionVars false
/- Layer 7: rows of changes that a law makes; a change is put behind. -/
namespace Go.Proofs.YtcpgbekcbaelpaaGreatDoor
open Go.RowKit
set_option linter.unusedVariables false
set_option linter.unusedSimpArgs false
def ccell (c : CG) (p : Option Addr × Nat) : List Value := [.int .i64 c.1, .int .i64 c.2.1.kind, .int .i64 c.2.1.num, .string c.2.1.text, .slice p.1 c.2.1.kids.length p.2, .bool c.2.2]
def ccells : List CG → List (Option Addr × Nat) → List Value
  | c :: l, p :: ps => ccell c p ++ ccells l ps
  | _, _ => []
theorem ccells_length : ∀ {l : List CG} {ps : List (Option Addr × Nat)}, ps.length = l.length → (ccells l ps).length = l.length * 6
  | [], [], _ => rfl
  | c :: l, p :: ps, h => by
    rw [List.length_cons, List.length_cons] at h
    rw [ccells, List.length_append, ccells_length (by omega)]; simp [ccell]; omega
theorem ccells_get : ∀ {l : List CG} {ps : List (Option Addr × Nat)} {i r : Nat} {c : CG} {p : Option Addr × Nat}, l[i]? = some c → ps[i]? = some p → r < 6 → (ccells l ps)[i * 6 + r]? = (ccell c p)[r]?
  | c :: l, p :: ps, 0, r, c', p', h, h2, hr => by
    cases h; cases h2
    rw [ccells, Nat.zero_mul, Nat.zero_add, List.getElem?_append_left (by simp [ccell]; omega)]
  | c :: l, p :: ps, i + 1, r, c', p', h, h2, hr => by
    rw [List.getElem?_cons_succ] at h h2
    rw [ccells, List.getElem?_append_right (by simp [ccell]; omega), show (i + 1) * 6 + r - (ccell c p).length = i * 6 + r by simp [ccell]; omega]
    exact ccells_get h h2 hr
theorem ccells_snoc : ∀ {l : List CG} {ps : List (Option Addr × Nat)} {c : CG} {p : Option Addr × Nat}, ps.length = l.length → ccells (l ++ [c]) (ps ++ [p]) = ccells l ps ++ ccell c p
  | [], [], _, _, _ => by simp [ccells]
  | c :: l, p :: ps, c', p', h => by
    rw [List.length_cons, List.length_cons] at h
    rw [List.cons_append, List.cons_append, ccells, ccells, ccells_snoc (by omega), List.append_assoc]
theorem ccell_one (c : CG) (p : Option Addr × Nat) : ∀ u ∈ ccell c p, u.oneCell' = true := by
  intro u hu
  simp only [ccell, List.mem_cons, List.not_mem_nil, or_false] at hu
  rcases hu with rfl | rfl | rfl | rfl | rfl | rfl <;> rfl
theorem infoC : (Tryz.prog.info? 35).map (fun i => (i.zero, i.size, i.bytes)) = some (some (.agg #[.int .i64 0, .int .i64 0, .int .i64 0, .string ⟨#[]⟩, .slice none 0 0, .bool false]), 6, 72) := by kernel_rfl
def CRow (w : World) (N : Nat) (P : Nat → Prop) (v : Value) (l : List CG) : Prop :=
  ∃ ps : List (Option Addr × Nat), ps.length = l.length ∧ RowZ w 35 6 v l.length (ccells l ps) ∧ (∀ k, v.ownBlock = some k → N ≤ k) ∧
    ∀ (i : Nat) (c : CG) (p : Option Addr × Nat), l[i]? = some c → ps[i]? = some p → ValIs w P c.2.1 (vval c.2.1 p.1 p.2) ∧ (Lit.int .i64 c.1).wf = true
section
variable {w w' : World} {N : Nat} {P : Nat → Prop} {v : Value} {l : List CG}
theorem CRow.nil (w : World) (N : Nat) (P : Nat → Prop) : CRow w N P (.slice none 0 0) [] := ⟨[], rfl, RowZ.nil _ _ _, fun k h => by simp [Value.ownBlock] at h, fun i t p h => by cases h⟩
theorem CRow.lt (h : CRow w N P v l) {k : Nat} (hk : v.ownBlock = some k) : N ≤ k ∧ k < w.heap.size := by obtain ⟨_, _, h, h2, _⟩ := h; exact ⟨h2 k hk, h.lt hk⟩
theorem CRow.chg {F : List Nat} (h : CRow w N P v l) (hc : Chg F w w') (hv : ∀ k, v.ownBlock = some k → k ∉ F) (hP : ∀ b, P b → b < w.heap.size ∧ b ∉ F) : CRow w' N P v l := by
  obtain ⟨ps, h1, h2, h3, h4⟩ := h
  exact ⟨ps, h1, h2.chg hc hv, h3, fun i t p ht hp => ⟨(h4 i t p ht hp).1.chg hc hP, (h4 i t p ht hp).2⟩⟩
theorem CRow.turn {Q : Nat → Prop} (h : CRow w N P v l) (ht : Turn Q w w') (hv : ∀ k, v.ownBlock = some k → ¬ Q k) (hP : ∀ b, P b → b < w.heap.size ∧ ¬ Q b) : CRow w' N P v l := by
  obtain ⟨F, hc, hF⟩ := ht.chg
  exact h.chg hc (fun k hk e => hv k hk (hF k e)) (fun b hb => ⟨(hP b hb).1, fun e => (hP b hb).2 (hF b e)⟩)
theorem CRow.below (h : CRow w N P v l) (hb : Below w.heap.size w w') (hP : ∀ b, P b → b < w.heap.size) : CRow w' N P v l := h.turn (Q := fun _ => False) (Turn.of_below hb) (fun _ _ h => h) (fun b hb => ⟨hP b hb, fun h => h⟩)
theorem CRow.mono {Q : Nat → Prop} (h : CRow w N P v l) (hPQ : ∀ b, P b → Q b) : CRow w N Q v l := by
  obtain ⟨ps, h1, h2, h3, h4⟩ := h
  exact ⟨ps, h1, h2, h3, fun i t p ht hp => ⟨(h4 i t p ht hp).1.mono hPQ, (h4 i t p ht hp).2⟩⟩
theorem CRow.form (h : CRow w N P v l) : ∃ ao cap, v = .slice ao l.length cap := by
  obtain ⟨ps, h1, h2, _⟩ := h
  obtain ⟨ao, cap, e, _⟩ := h2.form
  exact ⟨ao, cap, e⟩
theorem CRow.chs (h : CRow w N P v l) : ChsAt w (fun b => P b ∨ v.ownBlock = some b) v l := by
  obtain ⟨ps, h1, h2, h3, h4⟩ := h
  obtain ⟨ao, cap, rfl, hle, hm, hn, hs⟩ := h2.form
  refine ⟨ao, cap, rfl, hle, hm, fun e => (hn e).2, fun j c hj => ?_⟩
  have hjl := (List.getElem?_eq_some_iff.1 hj).1
  obtain ⟨p, hp⟩ : ∃ p, ps[j]? = some p := ⟨_, List.getElem?_eq_getElem (by omega)⟩
  cases ao with
  | none => have := (hn rfl).1; omega
  | some a =>
    obtain ⟨g, rfl, hg, hgb⟩ := hs a rfl
    have hlen := ccells_length h1
    have c0 : ∀ r, r < 6 → w.cell? ⟨g, 0 + j * 6 + r, none⟩ = (ccell c p)[r]? := fun r hr => by
      rw [Nat.zero_add, ← ccells_get hj hp hr]
      exact h2.cellAt _ (by rw [hlen]; omega)
    exact ⟨g, 0, rfl, .inr hgb, _, _, _, _, c0 0 (by omega), c0 1 (by omega), c0 2 (by omega), c0 3 (by omega), c0 4 (by omega), c0 5 (by omega), (h4 j c p hj hp).1.mono (fun _ h => .inl h), (h4 j c p hj hp).2⟩
end
theorem wpList_appc {w : World} {ops : Array Oper} {rest : List Oper} {o : Oper} {a : Act} {Q : Exit → Act → World → Prop} (hgd : o.guard = none) (s x : Operand)
    (ho : o.op = .call { callee := .builtin .append, args := #[s, x], argTypes := #[47, 47] }) {N : Nat} {P : Nat → Prop} {v : Value} {l : List CG} {ch : CG} {p : Option Addr × Nat} {ad : Addr} {c : Nat} (hs : a.eval s = v) (hr : CRow w N P v l) (hx : a.eval x = .slice (some ad) 1 c)
    (hnews : ∀ j u, (ccell ch p)[j]? = some u → w.cell? (ad.add j) = some u) (ht : ValIs w P ch.2.1 (vval ch.2.1 p.1 p.2)) (hid : (Lit.int .i64 ch.1).wf = true) (hN : N ≤ w.heap.size) (h63 : l.length ≤ 1000000) (hP : ∀ b, P b → b < w.heap.size ∧ v.ownBlock ≠ some b)
    (h : ∀ ao cap w', CRow w' N P (.slice ao (l.length + 1) cap) (l ++ [ch]) → OwnStep w v w' (.slice ao (l.length + 1) cap) → wpList Tryz.prog ops Q rest (a.put o.dst (.slice ao (l.length + 1) cap)) w') : wpList Tryz.prog ops Q (o :: rest) a w := by
  obtain ⟨ps, h1, h2, h3, h4⟩ := hr
  refine wpList_rows hgd s x 47 ho Tryz.underlying47 infoC rfl (by omega) hs h2 hx (.inr ⟨ad, c, rfl, hnews⟩) (by simp [ccell]) (ccell_one ch p) (by omega) (by omega) ?_
  intro ao cap w' hr' ha
  have hc := ha.chg
  refine h ao cap w' ⟨ps ++ [p], by simp [h1], by rw [ccells_snoc h1, List.length_append, List.length_singleton]; exact hr', fun k hk => ?_, fun i u q hu hq => ?_⟩ ⟨hc, ?_⟩
  · rcases ha.out hk with e | e
    · exact h3 k e
    · omega
  · have keep : ∀ {u : VT} {x : Value}, ValIs w P u x → ValIs w' P u x := fun hv => hv.chg hc (fun b hb => ⟨(hP b hb).1, by simpa using (hP b hb).2⟩)
    by_cases hi : i < l.length
    · rw [List.getElem?_append_left hi] at hu
      rw [List.getElem?_append_left (by omega)] at hq
      exact ⟨keep (h4 i u q hu hq).1, (h4 i u q hu hq).2⟩
    · have : i = l.length := by
        have := (List.getElem?_eq_some_iff.1 hu).1
        simp at this; omega
      subst this
      rw [List.getElem?_append_right (Nat.le_refl _), Nat.sub_self] at hu
      rw [List.getElem?_append_right (by omega), h1, Nat.sub_self] at hq
      cases hu; cases hq
      exact ⟨keep ht, hid⟩
  · rcases ha.2 with e | e
    · exact .inl e
    · exact .inr ⟨_, e, Nat.le_refl _⟩
end Go.Proofs.YtcpgbekcbaelpaaGreatDoor
/- Layers 1 to 7: objects that are put one by one, or many at once: plain words; Apply of nothing. -/
namespace Go.Proofs.YtcpgbekcbaelpaaGreatDoor
open Go.RowKit Go.Maps Wr
set_option linter.unusedVariables false
set_option linter.unusedSimpArgs false
namespace St
def adv (l : List Ch) (o : Objs) (n : Int) : Except Int (Objs × Int) := match withT l o n [] with
  | .ok p => .ok (p.1, p.2.1)
  | .error e => .error e
theorem adv_free : ∀ (l : List Ch) (o : Objs) (n : Int) (r : List UInt8), (match withT l o n r with | .ok p => Except.ok (p.1, p.2.1) | .error e => .error e) = adv l o n
  | [], o, n, r => rfl
  | c :: l, o, n, r => by
    unfold adv
    rw [withT, withT]
    cases hc : c.2 with
    | none => dsimp only; rw [adv_free l, adv_free l]
    | some x =>
      cases x with
      | error e => rfl
      | ok b => dsimp only; rw [adv_free l, adv_free l]
theorem adv_app (l l' : List Ch) (o : Objs) (n : Int) : adv (l ++ l') o n = match adv l o n with | .ok q => adv l' q.1 q.2 | .error e => .error e := by
  unfold adv
  rw [withT_app]
  cases h : withT l o n [] with
  | error e => rfl
  | ok p => exact adv_free l' p.1 p.2.1 p.2.2
theorem adv_of {s : Sto} {l : List Ch} {p : Objs × Int × List UInt8} (h : s.apT l = .ok p) : adv l s.objs s.next = .ok (p.1, p.2.1) := by
  unfold adv
  rw [(apT_inv h).2.1]
theorem adv_snoc {l : List Ch} {c : Ch} {o : Objs} {n : Int} {s : Sto} {p : Objs × Int × List UInt8} (h : adv l o n = .ok (s.objs, s.next)) (hp : s.apT [c] = .ok p) : adv (l ++ [c]) o n = .ok (p.1, p.2.1) := by
  rw [adv_app, h]
  exact adv_of hp
theorem oGet_mem : ∀ {l : Objs} {x : Int × List UInt8}, l.Pairwise (fun x y => x.1 < y.1) → x ∈ l → oGet l x.1 = some x.2
  | [], x, _, h => by cases h
  | y :: l, x, hs, h => by
    obtain ⟨h1, h2⟩ := List.pairwise_cons.1 hs
    unfold oGet
    rw [List.find?_cons]
    by_cases e : (y.1 == x.1) = true
    · rw [e]
      rcases List.mem_cons.1 h with rfl | h
      · rfl
      · have := h1 x h
        have e2 : y.1 = x.1 := by simpa using e
        omega
    · have e3 : (y.1 == x.1) = false := by simpa using e
      rw [e3]
      rcases List.mem_cons.1 h with rfl | h
      · simp at e
      · exact oGet_mem h2 h
end St
theorem apT_ne {s : St.Sto} {cs : List CG} {x : Int} (h : s.apT (cs.map chOf) = .error x) : x ≠ 0 := by
  unfold St.Sto.apT at h
  split at h
  · cases h; decide
  · split at h
    · rename_i e hw
      cases h
      exact withT_ne cs _ _ _ _ hw
    · split at h
      · cases h; decide
      · cases h
set_option maxRecDepth 100000 in
set_option maxHeartbeats 1000000 in
theorem apply_none (b : Nat) (ao : Option Addr) (cap : Nat) (w : World) : Calls Tryz.prog 11 #[.pointer (some ⟨b, 0, none⟩), .slice ao 0 cap] w fun e w' => e = .returned (.int .i64 0) ∧ w = w' := by
  go_enter Tryz.func11, Tryz.ntmps11
  go_wp2
  go_ret
  exact ⟨rfl, rfl⟩
theorem SdAt.clip {w : World} {b g : Nat} {s : St.Sto} {D : St.Dk} {A : Nat → Prop} (h : SdAt w b g s D A) : SdAt w b g s D (fun k => A k ∧ k < w.heap.size) := by
  obtain ⟨E, F, h, h1, h2⟩ := h
  exact ⟨E, F, h, fun k hk => ⟨h1 k hk, h.el k hk⟩, fun k hk => ⟨h2 k hk, h.fl k hk⟩⟩
theorem Sg.clip {w : World} {b g n : Nat} {s : St.Sto} {D : St.Dk} {t : Int} {A : Nat → Prop} (h : Sg w b g s D n t A) : Sg w b g s D n t (fun k => A k ∧ k < w.heap.size) := { h with sd := h.sd.clip }
theorem Sg.later {w : World} {b g n : Nat} {s : St.Sto} {D : St.Dk} {t t' : Int} {A : Nat → Prop} (h : Sg w b g s D n t A) (ht : t ≤ t') : Sg w b g s D n t' A := by
  obtain ⟨f, h1, h2⟩ := h.live
  exact { h with live := ⟨f, h1, { h2 with turn := Int.le_trans h2.turn ht, age := Int.le_trans h2.age ht }⟩ }
end Go.Proofs.YtcpgbekcbaelpaaGreatDoor
/- Layers 1 to 7: two stores, and a row of changes between them. -/
namespace Go.Proofs.YtcpgbekcbaelpaaGreatDoor
open Go.RowKit Go.Maps Wr
set_option linter.unusedVariables false
set_option linter.unusedSimpArgs false
theorem lay_300 : St.layT 300 100 = some (100, 99) := by decide
structure BtS (W1 : World) (N g1 g2 ba bb : Nat) (X : World) (sa sb : St.Sto) (Da Db : St.Dk) (A B Pv : Nat → Prop) (v : Value) (pend q : List CG) (ta tb : Int) : Prop where
  ga : Sg X ba g1 sa Da 300 ta A
  gb : Sg X bb g2 sb Db 300 tb B
  ca : sa.count = 100 ∧ sa.each = 99
  cb : sb.count = 100 ∧ sb.each = 99
  a : ∀ k, A k → N ≤ k ∧ k < X.heap.size
  b : ∀ k, B k → N ≤ k ∧ k < X.heap.size
  ab : ∀ k, A k → ¬ B k
  row : CRow X N Pv v pend
  p : ∀ k, Pv k → N ≤ k ∧ k < X.heap.size ∧ ¬ A k ∧ ¬ B k
  own : ∀ k, v.ownBlock = some k → ¬ A k ∧ ¬ B k ∧ ¬ Pv k
  adv : St.adv (q.map chOf) sb.objs sb.next = .ok (sa.objs, sa.next)
  w : Below N W1 X
  n : N ≤ X.heap.size
  hh : 0 < N
section
variable {W1 X X' : World} {N g1 g2 ba bb : Nat} {sa sb : St.Sto} {Da Db : St.Dk} {A B Pv : Nat → Prop} {v : Value} {pend q : List CG} {ta tb : Int}
theorem BtS.below (h : BtS W1 N g1 g2 ba bb X sa sb Da Db A B Pv v pend q ta tb) (hb : Below X.heap.size X X') : BtS W1 N g1 g2 ba bb X' sa sb Da Db A B Pv v pend q ta tb :=
  have hz := hb.size
  { h with
    ga := h.ga.below hb
    gb := h.gb.below hb
    a := fun k hk => ⟨(h.a k hk).1, Nat.lt_of_lt_of_le (h.a k hk).2 hz⟩
    b := fun k hk => ⟨(h.b k hk).1, Nat.lt_of_lt_of_le (h.b k hk).2 hz⟩
    row := h.row.below hb (fun k hk => (h.p k hk).2.1)
    p := fun k hk => ⟨(h.p k hk).1, Nat.lt_of_lt_of_le (h.p k hk).2.1 hz, (h.p k hk).2.2⟩
    w := h.w.trans (hb.mono h.n)
    n := Nat.le_trans h.n hz }
theorem BtS.val (h : BtS W1 N g1 g2 ba bb X sa sb Da Db A B Pv v pend q ta tb) (hb : Below X.heap.size X X') : BtS W1 N g1 g2 ba bb X' sa sb Da Db A B (fun k => Pv k ∨ (X.heap.size ≤ k ∧ k < X'.heap.size)) v pend q ta tb :=
  have h' := h.below hb
  { h' with
    row := h'.row.mono (fun _ hk => .inl hk)
    p := fun k hk => by
      rcases hk with hk | hk
      · exact h'.p k hk
      · have := h.n
        exact ⟨by omega, hk.2, fun e => by have := (h.a k e).2; omega, fun e => by have := (h.b k e).2; omega⟩
    own := fun k hk => ⟨(h'.own k hk).1, (h'.own k hk).2.1, fun e => by
      rcases e with e | e
      · exact (h'.own k hk).2.2 e
      · have := (h.row.lt hk).2; omega⟩ }
theorem BtS.turnA {ba' : Nat} {s' : St.Sto} {D' : St.Dk} {ta' : Int} {q' : List CG} (h : BtS W1 N g1 g2 ba bb X sa sb Da Db A B Pv v pend q ta tb) (ht : Turn A X X') (hs : Sg X' ba' g1 s' D' 300 ta' (Gro A X.heap.size)) (hc : s'.count = 100 ∧ s'.each = 99) (ha : St.adv (q'.map chOf) sb.objs sb.next = .ok (s'.objs, s'.next)) :
    BtS W1 N g1 g2 ba' bb X' s' sb D' Db (fun k => Gro A X.heap.size k ∧ k < X'.heap.size) B Pv v pend q' ta' tb :=
  have hz := ht.size
  have hn := h.n
  { ga := hs.clip
    gb := h.gb.turn ht (fun k hk e => h.ab k e hk) (fun e => by have h1 := (h.a _ e).1; have h2 := h.hh; omega)
    ca := hc
    cb := h.cb
    a := fun k hk => ⟨by rcases hk.1 with e | e; exact (h.a k e).1; omega, hk.2⟩
    b := fun k hk => ⟨(h.b k hk).1, Nat.lt_of_lt_of_le (h.b k hk).2 hz⟩
    ab := fun k hk e => by
      rcases hk.1 with hk | hk
      · exact h.ab k hk e
      · have := (h.b k e).2; omega
    row := h.row.turn ht (fun k hk => (h.own k hk).1) (fun k hk => ⟨(h.p k hk).2.1, (h.p k hk).2.2.1⟩)
    p := fun k hk => ⟨(h.p k hk).1, Nat.lt_of_lt_of_le (h.p k hk).2.1 hz, fun e => by
      rcases e.1 with e | e
      · exact (h.p k hk).2.2.1 e
      · have := (h.p k hk).2.1; omega, (h.p k hk).2.2.2⟩
    own := fun k hk => ⟨fun e => by
      rcases e.1 with e | e
      · exact (h.own k hk).1 e
      · have := (h.row.lt hk).2; omega, (h.own k hk).2⟩
    adv := ha
    w := h.w.trans (ht.below h.n (fun k hk => (h.a k hk).1))
    n := Nat.le_trans h.n hz
    hh := h.hh }
theorem BtS.turnB {s' : St.Sto} {D' : St.Dk} {tb' : Int} (h : BtS W1 N g1 g2 ba bb X sa sb Da Db A B Pv v pend q ta tb) (ht : Turn B X X') (hs : Sg X' bb g2 s' D' 300 tb' (Gro B X.heap.size)) (hc : s'.count = 100 ∧ s'.each = 99) (ha : s'.objs = sa.objs ∧ s'.next = sa.next) :
    BtS W1 N g1 g2 ba bb X' sa s' Da D' A (fun k => Gro B X.heap.size k ∧ k < X'.heap.size) Pv (.slice none 0 0) [] [] ta tb' :=
  have hz := ht.size
  have hn := h.n
  { ga := h.ga.turn ht (fun k hk e => h.ab k hk e) (fun e => by have h1 := (h.b _ e).1; have h2 := h.hh; omega)
    gb := hs.clip
    ca := h.ca
    cb := hc
    a := fun k hk => ⟨(h.a k hk).1, Nat.lt_of_lt_of_le (h.a k hk).2 hz⟩
    b := fun k hk => ⟨by rcases hk.1 with e | e; exact (h.b k e).1; omega, hk.2⟩
    ab := fun k hk e => by
      rcases e.1 with e | e
      · exact h.ab k hk e
      · have := (h.a k hk).2; omega
    row := CRow.nil _ _ _
    p := fun k hk => ⟨(h.p k hk).1, Nat.lt_of_lt_of_le (h.p k hk).2.1 hz, (h.p k hk).2.2.1, fun e => by
      rcases e.1 with e | e
      · exact (h.p k hk).2.2.2 e
      · have := (h.p k hk).2.1; omega⟩
    own := fun k hk => by simp [Value.ownBlock] at hk
    adv := by rw [ha.1, ha.2]; rfl
    w := h.w.trans (ht.below h.n (fun k hk => (h.b k hk).1))
    n := Nat.le_trans h.n hz
    hh := h.hh }
theorem BtS.app {v' : Value} {pend' : List CG} (h : BtS W1 N g1 g2 ba bb X sa sb Da Db A B Pv v pend q ta tb) (ho : OwnStep X v X' v') (hr : CRow X' N Pv v' pend') : BtS W1 N g1 g2 ba bb X' sa sb Da Db A B Pv v' pend' q ta tb :=
  have t : Turn (fun k => v.ownBlock = some k) X X' := Turn.of_chg ho.1 (fun k hk => .inl (by simpa using hk))
  have hz := t.size
  { h with
    ga := h.ga.turn t (fun k hk e => (h.own k e).1 hk) (fun e => by have h1 := (h.row.lt e).1; have h2 := h.hh; omega)
    gb := h.gb.turn t (fun k hk e => (h.own k e).2.1 hk) (fun e => by have h1 := (h.row.lt e).1; have h2 := h.hh; omega)
    a := fun k hk => ⟨(h.a k hk).1, Nat.lt_of_lt_of_le (h.a k hk).2 hz⟩
    b := fun k hk => ⟨(h.b k hk).1, Nat.lt_of_lt_of_le (h.b k hk).2 hz⟩
    row := hr
    p := fun k hk => ⟨(h.p k hk).1, Nat.lt_of_lt_of_le (h.p k hk).2.1 hz, (h.p k hk).2.2⟩
    own := fun k hk => by
      rcases ho.2 with e | ⟨j, e, hj⟩
      · exact h.own k (e ▸ hk)
      · have : j = k := Option.some.inj (e.symm.trans hk)
        subst this
        exact ⟨fun e => by have := (h.a _ e).2; omega, fun e => by have := (h.b _ e).2; omega, fun e => by have := (h.p _ e).2.1; omega⟩
    w := h.w.trans (t.below h.n (fun k hk => (h.row.lt hk).1))
    n := Nat.le_trans h.n hz }
theorem BtS.put {c : CG} {vc : Value} {P : Nat → Prop} {p : St.Objs × Int × List UInt8} (h : BtS W1 N g1 g2 ba bb X sa sb Da Db A B Pv v pend q ta tb) (ht : ta + 1 ≤ 4611686018427387904) (hc : ChsAt X P vc [c]) (hP : ∀ k, P k → k < X.heap.size) (hp : sa.apT [chOf c] = .ok p) :
    Calls Tryz.prog 11 #[.pointer (some ⟨ba, 0, none⟩), vc] X fun e X' => e = .returned (.int .i64 0) ∧ Turn A X X' ∧ ∃ s' D' A', BtS W1 N g1 g2 ba bb X' s' sb D' Db A' B Pv v pend (q ++ [c]) (ta + 1) tb := by
  refine (h.ga.apply ht hc hP (by simp) (by simp)).mono ?_
  intro e X' he
  rw [show [c].map chOf = [chOf c] from rfl, hp] at he
  obtain ⟨rfl, t1, s', D', hs, e1, e2, e3, e4⟩ := he
  refine ⟨rfl, t1, s', D', _, h.turnA (q' := q ++ [c]) t1 hs ⟨e3.trans h.ca.1, e4.trans h.ca.2⟩ ?_⟩
  rw [List.map_append, e1, e2]
  exact St.adv_snoc h.adv hp
theorem BtS.putNo {c : CG} {vc : Value} {P : Nat → Prop} {x : Int} (h : BtS W1 N g1 g2 ba bb X sa sb Da Db A B Pv v pend q ta tb) (ht : ta + 1 ≤ 4611686018427387904) (hc : ChsAt X P vc [c]) (hP : ∀ k, P k → k < X.heap.size) (hp : sa.apT [chOf c] = .error x) :
    Calls Tryz.prog 11 #[.pointer (some ⟨ba, 0, none⟩), vc] X fun e X' => e = .returned (.int .i64 x) ∧ x ≠ 0 ∧ Below X.heap.size X X' := by
  refine (h.ga.apply ht hc hP (by simp) (by simp)).mono ?_
  intro e X' he
  rw [show [c].map chOf = [chOf c] from rfl, hp] at he
  exact he
theorem BtS.flush {p : St.Objs × Int × List UInt8} (h : BtS W1 N g1 g2 ba bb X sa sb Da Db A B Pv v pend pend ta tb) (ht : tb + 1 ≤ 4611686018427387904) (hne : pend ≠ []) (hl : pend.length ≤ 1000) (hp : sb.apT (pend.map chOf) = .ok p) :
    Calls Tryz.prog 11 #[.pointer (some ⟨bb, 0, none⟩), v] X fun e X' => e = .returned (.int .i64 0) ∧ ∃ s' D' B', BtS W1 N g1 g2 ba bb X' sa s' Da D' A B' Pv (.slice none 0 0) [] [] ta (tb + 1) := by
  refine (h.gb.apply ht h.row.chs (fun k hk => by rcases hk with hk | hk; exact (h.p k hk).2.1; exact (h.row.lt hk).2) hne hl).mono ?_
  intro e X' he
  rw [hp] at he
  obtain ⟨rfl, t1, s', D', hs, e1, e2, e3, e4⟩ := he
  have ha := h.adv
  rw [St.adv_of hp] at ha
  have h1 := Prod.mk.inj (Except.ok.inj ha)
  exact ⟨rfl, s', D', _, h.turnB t1 hs ⟨e3.trans h.cb.1, e4.trans h.cb.2⟩ ⟨e1.trans h1.1, e2.trans h1.2⟩⟩
theorem BtS.flushNo {x : Int} (h : BtS W1 N g1 g2 ba bb X sa sb Da Db A B Pv v pend q ta tb) (ht : tb + 1 ≤ 4611686018427387904) (hne : pend ≠ []) (hl : pend.length ≤ 1000) (hp : sb.apT (pend.map chOf) = .error x) :
    Calls Tryz.prog 11 #[.pointer (some ⟨bb, 0, none⟩), v] X fun e X' => e = .returned (.int .i64 x) ∧ x ≠ 0 ∧ Below X.heap.size X X' := by
  refine (h.gb.apply ht h.row.chs (fun k hk => by rcases hk with hk | hk; exact (h.p k hk).2.1; exact (h.row.lt hk).2) hne hl).mono ?_
  intro e X' he
  rw [hp] at he
  exact he
theorem BtS.ck (h : BtS W1 N g1 g2 ba bb X sa sb Da Db A B Pv v pend q ta tb) (ht : ta + 1 ≤ 4611686018427387904) :
    Calls Tryz.prog 12 #[.pointer (some ⟨ba, 0, none⟩)] X fun e X' => e = .returned (.int .i64 0) ∧ ∃ s' D' A', BtS W1 N g1 g2 ba bb X' s' sb D' Db A' B Pv v pend q (ta + 1) tb := by
  refine (h.ga.checkpoint ht).mono ?_
  rintro e X' ⟨rfl, t1, s', D', hs, e1, e2, e3, e4⟩
  exact ⟨rfl, s', D', _, h.turnA t1 hs ⟨e3.trans h.ca.1, e4.trans h.ca.2⟩ (by rw [e1, e2]; exact h.adv)⟩
theorem BtS.anew (h : BtS W1 N g1 g2 ba bb X sa sb Da Db A B Pv v pend q ta tb) :
    Calls Tryz.prog 13 #[.pointer (some ⟨g1, 0, none⟩), .int .i64 100] X fun e X' => ∃ b', e = .returned (.tuple #[.pointer (some ⟨b', 0, none⟩), .int .i64 0]) ∧ ∃ D' A', BtS W1 N g1 g2 b' bb X' sa sb D' Db A' B Pv v pend q ta tb := by
  refine (h.ga.opened (log := 100) (by rw [h.ca.1, h.ca.2]; exact lay_300)).mono ?_
  rintro e X' ⟨b', D', rfl, t1, hs⟩
  exact ⟨b', rfl, D', _, h.turnA t1 hs h.ca h.adv⟩
theorem BtS.later {ta' tb' : Int} (h : BtS W1 N g1 g2 ba bb X sa sb Da Db A B Pv v pend q ta tb) (h1 : ta ≤ ta') (h2 : tb ≤ tb') : BtS W1 N g1 g2 ba bb X sa sb Da Db A B Pv v pend q ta' tb' := { h with ga := h.ga.later h1, gb := h.gb.later h2 }
end
theorem BtS.same {W1 X : World} {N g1 g2 ba bb : Nat} {sa sb : St.Sto} {Da Db : St.Dk} {A B Pv : Nat → Prop} {v : Value} {pend : List CG} {ta tb : Int} (h : BtS W1 N g1 g2 ba bb X sa sb Da Db A B Pv v pend [] ta tb) : sb.objs = sa.objs ∧ sb.next = sa.next := by
  have h1 := Prod.mk.inj (Except.ok.inj (show (Except.ok (sb.objs, sb.next) : Except Int _) = .ok (sa.objs, sa.next) from h.adv))
  exact h1
structure BtE (W1 : World) (N ba bb : Nat) (X : World) (o : St.Objs) (nx : Int) : Prop where
  na : ∀ X', Below X.heap.size X X' → Calls Tryz.prog 14 #[.pointer (some ⟨ba, 0, none⟩)] X' fun e w' => e = .returned (.int .i64 nx) ∧ X' = w'
  nb : ∀ X', Below X.heap.size X X' → Calls Tryz.prog 14 #[.pointer (some ⟨bb, 0, none⟩)] X' fun e w' => e = .returned (.int .i64 nx) ∧ X' = w'
  za : ∀ X', Below X.heap.size X X' → Calls Tryz.prog 20 #[.pointer (some ⟨ba, 0, none⟩)] X' fun e w' => e = .returned (.int .i64 ((St.image o nx).length : Int)) ∧ Below X'.heap.size X' w'
  zb : ∀ X', Below X.heap.size X X' → Calls Tryz.prog 20 #[.pointer (some ⟨bb, 0, none⟩)] X' fun e w' => e = .returned (.int .i64 ((St.image o nx).length : Int)) ∧ Below X'.heap.size X' w'
  ia : ∀ X', Below X.heap.size X X' → Calls Tryz.prog 15 #[.pointer (some ⟨ba, 0, none⟩)] X' fun e w' => ∃ v, e = .returned v ∧ Row w' 3 v (o.map fun x => Value.int .i64 x.1) ∧ Below X'.heap.size X' w'
  ib : ∀ X', Below X.heap.size X X' → Calls Tryz.prog 15 #[.pointer (some ⟨bb, 0, none⟩)] X' fun e w' => ∃ v, e = .returned v ∧ Row w' 3 v (o.map fun x => Value.int .i64 x.1) ∧ Below X'.heap.size X' w'
  ga : ∀ X' (x : Int × List UInt8), Below X.heap.size X X' → x ∈ o → Calls Tryz.prog 41 #[.pointer (some ⟨ba, 0, none⟩), .int .i64 x.1] X' fun e w' => ∃ v, e = .returned (.tuple #[v, .int .i64 0]) ∧ ValIs w' (fun k => X'.heap.size ≤ k ∧ k < w'.heap.size) (dec x.2).1 v ∧ Below X'.heap.size X' w'
  gb : ∀ X' (x : Int × List UInt8), Below X.heap.size X X' → x ∈ o → Calls Tryz.prog 41 #[.pointer (some ⟨bb, 0, none⟩), .int .i64 x.1] X' fun e w' => ∃ v, e = .returned (.tuple #[v, .int .i64 0]) ∧ ValIs w' (fun k => X'.heap.size ≤ k ∧ k < w'.heap.size) (dec x.2).1 v ∧ Below X'.heap.size X' w'
  w : Below N W1 X
  n : N ≤ X.heap.size
  len : o.length ≤ 67108864
theorem Sg.getOf {w : World} {b g n : Nat} {s : St.Sto} {D : St.Dk} {t : Int} {A : Nat → Prop} (h : Sg w b g s D n t A) {x : Int × List UInt8} (hx : x ∈ s.objs) : Calls Tryz.prog 41 #[.pointer (some ⟨b, 0, none⟩), .int .i64 x.1] w fun e w' => ∃ v, e = .returned (.tuple #[v, .int .i64 0]) ∧ ValIs w' (fun k => w.heap.size ≤ k ∧ k < w'.heap.size) (dec x.2).1 v ∧ Below w.heap.size w w' := by
  have hf := h.facts
  have he := hf.ob.each x hx
  have hn := hf.ob.n2
  have hq := h.get x.1 (WalkArith.wf_i64 (by omega))
  rw [St.oGet_mem hf.ob.sorted hx] at hq
  refine hq.mono ?_
  rintro e w' ⟨v, rfl, hv, hb⟩
  have hd : (dec x.2).2 = 0 := of_decide_eq_true he.2.2.1
  exact ⟨v, by rw [hd], hv, hb⟩
theorem BtS.ends {W1 X : World} {N g1 g2 ba bb : Nat} {sa sb : St.Sto} {Da Db : St.Dk} {A B Pv : Nat → Prop} {v : Value} {pend : List CG} {ta tb : Int} (h : BtS W1 N g1 g2 ba bb X sa sb Da Db A B Pv v pend [] ta tb) : BtE W1 N ba bb X sa.objs sa.next := by
  obtain ⟨e1, e2⟩ := h.same
  refine ⟨fun X' hX => (h.ga.below hX).next, fun X' hX => ?_, fun X' hX => (h.ga.below hX).size, fun X' hX => ?_, fun X' hX => ?_, fun X' hX => ?_, fun X' x hX hx => (h.ga.below hX).getOf hx, fun X' x hX hx => (h.gb.below hX).getOf (e1 ▸ hx), h.w, h.n, h.ga.facts.ob.cnt⟩
  · have := (h.gb.below hX).next
    rw [e2] at this
    exact this
  · have := (h.gb.below hX).size
    rw [e1, e2] at this
    exact this
  · exact ((h.ga.below hX).ids).mono (fun e w' ⟨v, a, b, _, c⟩ => ⟨v, a, b, c⟩)
  · have := (h.gb.below hX).ids
    rw [e1] at this
    exact this.mono (fun e w' ⟨v, a, b, _, c⟩ => ⟨v, a, b, c⟩)
theorem chs_val {w : World} {P : Nat → Prop} {id : Int} {t : VT} {ao : Option Addr} {cap : Nat} (hv : ValIs w P t (vval t ao cap)) (hP : ∀ b, P b → b < w.heap.size) (hid : (Lit.int .i64 id).wf = true) :
    ChsAt (w.alloc (.cells #[.int .i64 id, .int .i64 t.kind, .int .i64 t.num, .string t.text, .slice ao t.kids.length cap, .bool false] 35)) (fun b => b < w.heap.size + 1) (.slice (some ⟨w.heap.size, 0, none⟩) 1 1) [(id, t, false)] := by
  refine ⟨_, 1, rfl, Nat.le_refl _, by unfold maxLen; omega, (fun h => by cases h), fun j c hj => ?_⟩
  cases j with
  | zero =>
    cases hj
    exact ⟨w.heap.size, 0, rfl, by omega, .int .i64 t.kind, .int .i64 t.num, .string t.text, .slice ao t.kids.length cap, by simp, by simp, by simp, by simp, by simp, by simp, (hv.below ((Below.refl _ w).alloc (Nat.le_refl _) _) hP).mono (fun b hb => by have := hP b hb; omega), hid⟩
  | succ j => cases hj
theorem cell_six_new (w : World) (a b c d e f : Value) (t : TypeId) : ∀ (j : Nat) (u : Value), [a, b, c, d, e, f][j]? = some u → (w.alloc (.cells #[a, b, c, d, e, f] t)).cell? (Addr.add ⟨w.heap.size, 0, none⟩ j) = some u := by
  intro j u hj
  have hb := World.alloc_heap_new w (.cells #[a, b, c, d, e, f] t)
  rw [show (Addr.add ⟨w.heap.size, 0, none⟩ j) = ⟨w.heap.size, j, none⟩ by unfold Addr.add; split <;> simp_all]
  unfold World.cell?
  rw [hb]
  show (#[a, b, c, d, e, f] : Array Value)[j]? = some u
  rw [← Array.getElem?_toList]
  exact hj
end Go.Proofs.YtcpgbekcbaelpaaGreatDoor
