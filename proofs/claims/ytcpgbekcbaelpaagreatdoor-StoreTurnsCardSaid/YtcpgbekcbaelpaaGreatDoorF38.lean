/- Texts of the proof, in build order: StBr, StBp, StFw. -/
import Derived.Test.YtcpgbekcbaelpaaGreatDoorF37
import Derived.Test.YtcpgbekcbaelpaaGreatDoorF17
import Derived.Test.YtcpgbekcbaelpaaGreatDoorF14
set_option linter.unusedVariables false
set_option linter.unusedSimpArgs false
set_option linter.unusedSectionVars false
/- Layer 7: rows of changes that a law makes; a change is put behind. -/
namespace Go.Proofs.YtcpgbekcbaelpaaGreatDoor
open Go.RowKit
set_option linter.unusedVariables false
set_option linter.unusedSimpArgs false
def ccell (c : CG) (p : Option Addr × Nat) : List Value := [.int .i64 c.1, .int .i64 c.2.1.kind, .int .i64 c.2.1.num, .string c.2.1.text, .slice p.1 c.2.1.kids.length p.2, .bool c.2.2]
def ccells : List CG → List (Option Addr × Nat) → List Value
  | c :: l, p :: ps => ccell c p ++ ccells l ps
  | _, _ => []
theorem ccells_length : ∀ {l : List CG} {ps : List (Option Addr × Nat)}, ps.length = l.length → (ccells l ps).length = l.length * 6
  | [], [], _ => rfl
  | c :: l, p :: ps, h => by
    rw [List.length_cons, List.length_cons] at h
    rw [ccells, List.length_append, ccells_length (by omega)]; simp [ccell]; omega
theorem ccells_get : ∀ {l : List CG} {ps : List (Option Addr × Nat)} {i r : Nat} {c : CG} {p : Option Addr × Nat}, l[i]? = some c → ps[i]? = some p → r < 6 → (ccells l ps)[i * 6 + r]? = (ccell c p)[r]?
  | c :: l, p :: ps, 0, r, c', p', h, h2, hr => by
    cases h; cases h2
    rw [ccells, Nat.zero_mul, Nat.zero_add, List.getElem?_append_left (by simp [ccell]; omega)]
  | c :: l, p :: ps, i + 1, r, c', p', h, h2, hr => by
    rw [List.getElem?_cons_succ] at h h2
    rw [ccells, List.getElem?_append_right (by simp [ccell]; omega), show (i + 1) * 6 + r - (ccell c p).length = i * 6 + r by simp [ccell]; omega]
    exact ccells_get h h2 hr
theorem ccells_snoc : ∀ {l : List CG} {ps : List (Option Addr × Nat)} {c : CG} {p : Option Addr × Nat}, ps.length = l.length → ccells (l ++ [c]) (ps ++ [p]) = ccells l ps ++ ccell c p
  | [], [], _, _, _ => by simp [ccells]
  | c :: l, p :: ps, c', p', h => by
    rw [List.length_cons, List.length_cons] at h
    rw [List.cons_append, List.cons_append, ccells, ccells, ccells_snoc (by omega), List.append_assoc]
theorem ccell_one (c : CG) (p : Option Addr × Nat) : ∀ u ∈ ccell c p, u.oneCell' = true := by
  intro u hu
  simp only [ccell, List.mem_cons, List.not_mem_nil, or_false] at hu
  rcases hu with rfl | rfl | rfl | rfl | rfl | rfl <;> rfl
theorem infoC : (Tryz.prog.info? 35).map (fun i => (i.zero, i.size, i.bytes)) = some (some (.agg #[.int .i64 0, .int .i64 0, .int .i64 0, .string ⟨#[]⟩, .slice none 0 0, .bool false]), 6, 72) := by kernel_rfl
def CRow (w : World) (N : Nat) (P : Nat → Prop) (v : Value) (l : List CG) : Prop :=
  ∃ ps : List (Option Addr × Nat), ps.length = l.length ∧ RowZ w 35 6 v l.length (ccells l ps) ∧ (∀ k, v.ownBlock = some k → N ≤ k) ∧
    ∀ (i : Nat) (c : CG) (p : Option Addr × Nat), l[i]? = some c → ps[i]? = some p → ValIs w P c.2.1 (vval c.2.1 p.1 p.2) ∧ (Lit.int .i64 c.1).wf = true
section
variable {w w' : World} {N : Nat} {P : Nat → Prop} {v : Value} {l : List CG}
theorem CRow.nil (w : World) (N : Nat) (P : Nat → Prop) : CRow w N P (.slice none 0 0) [] := ⟨[], rfl, RowZ.nil _ _ _, fun k h => by simp [Value.ownBlock] at h, fun i t p h => by cases h⟩
theorem CRow.lt (h : CRow w N P v l) {k : Nat} (hk : v.ownBlock = some k) : N ≤ k ∧ k < w.heap.size := by obtain ⟨_, _, h, h2, _⟩ := h; exact ⟨h2 k hk, h.lt hk⟩
theorem CRow.chg {F : List Nat} (h : CRow w N P v l) (hc : Chg F w w') (hv : ∀ k, v.ownBlock = some k → k ∉ F) (hP : ∀ b, P b → b < w.heap.size ∧ b ∉ F) : CRow w' N P v l := by
  obtain ⟨ps, h1, h2, h3, h4⟩ := h
  exact ⟨ps, h1, h2.chg hc hv, h3, fun i t p ht hp => ⟨(h4 i t p ht hp).1.chg hc hP, (h4 i t p ht hp).2⟩⟩
theorem CRow.turn {Q : Nat → Prop} (h : CRow w N P v l) (ht : Turn Q w w') (hv : ∀ k, v.ownBlock = some k → ¬ Q k) (hP : ∀ b, P b → b < w.heap.size ∧ ¬ Q b) : CRow w' N P v l := by
  obtain ⟨F, hc, hF⟩ := ht.chg
  exact h.chg hc (fun k hk e => hv k hk (hF k e)) (fun b hb => ⟨(hP b hb).1, fun e => (hP b hb).2 (hF b e)⟩)
theorem CRow.below (h : CRow w N P v l) (hb : Below w.heap.size w w') (hP : ∀ b, P b → b < w.heap.size) : CRow w' N P v l := h.turn (Q := fun _ => False) (Turn.of_below hb) (fun _ _ h => h) (fun b hb => ⟨hP b hb, fun h => h⟩)
theorem CRow.mono {Q : Nat → Prop} (h : CRow w N P v l) (hPQ : ∀ b, P b → Q b) : CRow w N Q v l := by
  obtain ⟨ps, h1, h2, h3, h4⟩ := h
  exact ⟨ps, h1, h2, h3, fun i t p ht hp => ⟨(h4 i t p ht hp).1.mono hPQ, (h4 i t p ht hp).2⟩⟩
theorem CRow.form (h : CRow w N P v l) : ∃ ao cap, v = .slice ao l.length cap := by
  obtain ⟨ps, h1, h2, _⟩ := h
  obtain ⟨ao, cap, e, _⟩ := h2.form
  exact ⟨ao, cap, e⟩
theorem CRow.chs (h : CRow w N P v l) : ChsAt w (fun b => P b ∨ v.ownBlock = some b) v l := by
  obtain ⟨ps, h1, h2, h3, h4⟩ := h
  obtain ⟨ao, cap, rfl, hle, hm, hn, hs⟩ := h2.form
  refine ⟨ao, cap, rfl, hle, hm, fun e => (hn e).2, fun j c hj => ?_⟩
  have hjl := (List.getElem?_eq_some_iff.1 hj).1
  obtain ⟨p, hp⟩ : ∃ p, ps[j]? = some p := ⟨_, List.getElem?_eq_getElem (by omega)⟩
  cases ao with
  | none => have := (hn rfl).1; omega
  | some a =>
    obtain ⟨g, rfl, hg, hgb⟩ := hs a rfl
    have hlen := ccells_length h1
    have c0 : ∀ r, r < 6 → w.cell? ⟨g, 0 + j * 6 + r, none⟩ = (ccell c p)[r]? := fun r hr => by
      rw [Nat.zero_add, ← ccells_get hj hp hr]
      exact h2.cellAt _ (by rw [hlen]; omega)
    exact ⟨g, 0, rfl, .inr hgb, _, _, _, _, c0 0 (by omega), c0 1 (by omega), c0 2 (by omega), c0 3 (by omega), c0 4 (by omega), c0 5 (by omega), (h4 j c p hj hp).1.mono (fun _ h => .inl h), (h4 j c p hj hp).2⟩
end
end Go.Proofs.YtcpgbekcbaelpaaGreatDoor
/- Layers 1 to 7: objects that are put one by one, or many at once: plain words; Apply of nothing. -/
namespace Go.Proofs.YtcpgbekcbaelpaaGreatDoor
open Go.RowKit Go.Maps Wr
set_option linter.unusedVariables false
set_option linter.unusedSimpArgs false
namespace St
end St
theorem apT_ne {s : St.Sto} {cs : List CG} {x : Int} (h : s.apT (cs.map chOf) = .error x) : x ≠ 0 := by
  unfold St.Sto.apT at h
  split at h
  · cases h; decide
  · split at h
    · rename_i e hw
      cases h
      exact withT_ne cs _ _ _ _ hw
    · split at h
      · cases h; decide
      · cases h
set_option maxRecDepth 100000 in
set_option maxHeartbeats 1000000 in
theorem apply_none (b : Nat) (ao : Option Addr) (cap : Nat) (w : World) : Calls Tryz.prog 11 #[.pointer (some ⟨b, 0, none⟩), .slice ao 0 cap] w fun e w' => e = .returned (.int .i64 0) ∧ w = w' := by
  go_enter Tryz.func11, Tryz.ntmps11
  go_wp2
  go_ret
  exact ⟨rfl, rfl⟩
theorem SdAt.clip {w : World} {b g : Nat} {s : St.Sto} {D : St.Dk} {A : Nat → Prop} (h : SdAt w b g s D A) : SdAt w b g s D (fun k => A k ∧ k < w.heap.size) := by
  obtain ⟨E, F, h, h1, h2⟩ := h
  exact ⟨E, F, h, fun k hk => ⟨h1 k hk, h.el k hk⟩, fun k hk => ⟨h2 k hk, h.fl k hk⟩⟩
theorem Sg.clip {w : World} {b g n : Nat} {s : St.Sto} {D : St.Dk} {t : Int} {A : Nat → Prop} (h : Sg w b g s D n t A) : Sg w b g s D n t (fun k => A k ∧ k < w.heap.size) := { h with sd := h.sd.clip }
theorem Sg.later {w : World} {b g n : Nat} {s : St.Sto} {D : St.Dk} {t t' : Int} {A : Nat → Prop} (h : Sg w b g s D n t A) (ht : t ≤ t') : Sg w b g s D n t' A := by
  obtain ⟨f, h1, h2⟩ := h.live
  exact { h with live := ⟨f, h1, { h2 with turn := Int.le_trans h2.turn ht, age := Int.le_trans h2.age ht }⟩ }
end Go.Proofs.YtcpgbekcbaelpaaGreatDoor
/- Layer 7: the laws' few and to. -/
namespace Go.Proofs.YtcpgbekcbaelpaaGreatDoor
open Go.RowKit
set_option linter.unusedVariables false
set_option linter.unusedSimpArgs false
def OwC (T : TypeId) (w : World) (N : Nat) (v : Value) (l : List CG) : Prop :=
  ∃ ps : List (Option Addr × Nat), ps.length = l.length ∧ RowZ w T 6 v l.length (ccells l ps) ∧ (∀ k, v.ownBlock = some k → N ≤ k) ∧
    ∀ (i : Nat) (c : CG) (p : Option Addr × Nat), l[i]? = some c → ps[i]? = some p → ValIs w (fun b => N ≤ b ∧ b < w.heap.size ∧ v.ownBlock ≠ some b) c.2.1 (vval c.2.1 p.1 p.2) ∧ (Lit.int .i64 c.1).wf = true
section
variable {T : TypeId} {w w' : World} {N : Nat} {v : Value} {l : List CG}
theorem OwC.nil (T : TypeId) (w : World) (N : Nat) : OwC T w N (.slice none 0 0) [] := ⟨[], rfl, RowZ.nil _ _ _, fun k h => by simp [Value.ownBlock] at h, fun i t p h => by cases h⟩
theorem OwC.lt (h : OwC T w N v l) {k : Nat} (hk : v.ownBlock = some k) : N ≤ k ∧ k < w.heap.size := by obtain ⟨_, _, h, h2, _⟩ := h; exact ⟨h2 k hk, h.lt hk⟩
theorem OwC.below (h : OwC T w N v l) (hb : Below w.heap.size w w') : OwC T w' N v l := by
  obtain ⟨ps, h1, h2, h3, h4⟩ := h
  exact ⟨ps, h1, h2.below hb (fun k hk => h2.lt hk), h3, fun i t p ht hp => ⟨((h4 i t p ht hp).1.below hb (fun b hb => hb.2.1)).mono (fun b hb' => ⟨hb'.1, Nat.lt_of_lt_of_le hb'.2.1 hb.size, hb'.2.2⟩), (h4 i t p ht hp).2⟩⟩
theorem OwC.form (h : OwC T w N v l) : ∃ ao cap, v = .slice ao l.length cap := by
  obtain ⟨ps, h1, h2, _⟩ := h
  obtain ⟨ao, cap, e, _⟩ := h2.form
  exact ⟨ao, cap, e⟩
theorem OwC.chs (h : OwC T w N v l) : ChsAt w (fun b => N ≤ b ∧ b < w.heap.size) v l := by
  obtain ⟨ps, h1, h2, h3, h4⟩ := h
  obtain ⟨ao, cap, rfl, hle, hm, hn, hs⟩ := h2.form
  refine ⟨ao, cap, rfl, hle, hm, fun e => (hn e).2, fun j c hj => ?_⟩
  have hjl := (List.getElem?_eq_some_iff.1 hj).1
  obtain ⟨p, hp⟩ : ∃ p, ps[j]? = some p := ⟨_, List.getElem?_eq_getElem (by omega)⟩
  cases ao with
  | none => have := (hn rfl).1; omega
  | some a =>
    obtain ⟨g, rfl, hg, hgb⟩ := hs a rfl
    have hlen := ccells_length h1
    have c0 : ∀ r, r < 6 → w.cell? ⟨g, 0 + j * 6 + r, none⟩ = (ccell c p)[r]? := fun r hr => by
      rw [Nat.zero_add, ← ccells_get hj hp hr]
      exact h2.cellAt _ (by rw [hlen]; omega)
    exact ⟨g, 0, rfl, ⟨h3 g hgb, hg⟩, _, _, _, _, c0 0 (by omega), c0 1 (by omega), c0 2 (by omega), c0 3 (by omega), c0 4 (by omega), c0 5 (by omega), (h4 j c p hj hp).1.mono (fun _ h => ⟨h.1, h.2.1⟩), (h4 j c p hj hp).2⟩
end
theorem step_chg {T U : TypeId} (hU : Tryz.prog.underlying U = some (.slice T)) (hi : (Tryz.prog.info? T).map (fun i => (i.zero, i.size, i.bytes)) = some (some (.agg #[.int .i64 0, .int .i64 0, .int .i64 0, .string ⟨#[]⟩, .slice none 0 0, .bool false]), 6, 72))
    {w : World} {ops : Array Oper} {o : Oper} {a : Act} {K : Act → World → Prop} {Q : Exit → Act → World → Prop} {E : Prop} (hgd : o.guard = none) (s x : Operand)
    (ho : o.op = .call { callee := .builtin .append, args := #[s, x], argTypes := #[U, U] }) {N : Nat} {v : Value} {l : List CG} {ch : CG} {p : Option Addr × Nat} {ad : Addr} {c : Nat} (hs : a.eval s = v) (hr : OwC T w N v l) (hx : a.eval x = .slice (some ad) 1 c)
    (hid : (Lit.int .i64 ch.1).wf = true) (ht : ValIs w (fun b => N ≤ b ∧ b < w.heap.size ∧ v.ownBlock ≠ some b) ch.2.1 (vval ch.2.1 p.1 p.2))
    (hnews : ∀ j u, (ccell ch p)[j]? = some u → w.cell? (ad.add j) = some u) (hN : N ≤ w.heap.size) (h63 : l.length ≤ 1000000)
    (h : ∀ ao cap w', OwC T w' N (.slice ao (l.length + 1) cap) (l ++ [ch]) → Below N w w' → Chg v.ownBlock.toList w w' → K (a.put o.dst (.slice ao (l.length + 1) cap)) w') : if Region.wanted o (yielded ops a.tmps) = true then Oper.wp Tryz.prog o a w K Q else E := by
  obtain ⟨ps, h1, h2, h3, h4⟩ := hr
  refine step_rows (n := l.length) (m := 1) (news := ccell ch p) hgd s x U ho hU hi rfl (by omega) hs h2 hx (.inr ⟨ad, c, rfl, hnews⟩) (by simp [ccell]) (ccell_one ch p) (by omega) (by omega) ?_
  intro ao cap w' hr' ha
  have hc := ha.chg
  have hb := hc.below hN (fun k hk => h3 k (by simpa using hk))
  refine h ao cap w' ⟨ps ++ [p], by simp [h1], by rw [ccells_snoc h1, List.length_append, List.length_singleton]; exact hr', fun k hk => ?_, fun i u q hu hq => ?_⟩ hb hc
  · rcases ha.out hk with e | e
    · exact h3 k e
    · omega
  · have keep : ∀ {u : VT} {x : Value}, ValIs w (fun b => N ≤ b ∧ b < w.heap.size ∧ v.ownBlock ≠ some b) u x → ValIs w' (fun b => N ≤ b ∧ b < w'.heap.size ∧ (Value.slice ao (l.length + 1) cap).ownBlock ≠ some b) u x := fun hv =>
      (hv.chg hc (fun b hb => ⟨hb.2.1, by simpa using hb.2.2⟩)).mono fun b hb => ⟨hb.1, Nat.lt_of_lt_of_le hb.2.1 hc.size, fun e => by
        rcases ha.out e with e | e
        · exact hb.2.2 e
        · have := hb.2.1; omega⟩
    by_cases hi : i < l.length
    · rw [List.getElem?_append_left hi] at hu
      rw [List.getElem?_append_left (by omega)] at hq
      exact ⟨keep (h4 i u q hu hq).1, (h4 i u q hu hq).2⟩
    · have : i = l.length := by
        have := (List.getElem?_eq_some_iff.1 hu).1
        simp at this; omega
      subst this
      rw [List.getElem?_append_right (Nat.le_refl _), Nat.sub_self] at hu
      rw [List.getElem?_append_right (by omega), h1, Nat.sub_self] at hq
      cases hu; cases hq
      exact ⟨keep ht, hid⟩
theorem infoC7 : (Tryz.prog.info? 45).map (fun i => (i.zero, i.size, i.bytes)) = some (some (.agg #[.int .i64 0, .int .i64 0, .int .i64 0, .string ⟨#[]⟩, .slice none 0 0, .bool false]), 6, 72) := by kernel_rfl
theorem box_fourC (w5 : World) (k n : Int) (s : ByteArray) (sl : Value) (T : TypeId) (W : World) (hW : Below (w5.heap.size + 1) (w5.alloc (.cells #[.int .i64 k, .int .i64 n, .string s, sl] T)) W) : W.cell? ⟨w5.heap.size, 0, none⟩ = some (.int .i64 k) ∧ W.cell? ⟨w5.heap.size, 1, none⟩ = some (.int .i64 n) ∧ W.cell? ⟨w5.heap.size, 2, none⟩ = some (.string s) ∧ W.cell? ⟨w5.heap.size, 3, none⟩ = some sl := by
  have h := (hW.block w5.heap.size (by omega)).trans (World.alloc_heap_new w5 _)
  exact ⟨by simp [World.cell?, h], by simp [World.cell?, h], by simp [World.cell?, h], by simp [World.cell?, h]⟩
theorem cell_six_newC (w : World) (a b c d e f : Value) (t : TypeId) : ∀ (j : Nat) (u : Value), [a, b, c, d, e, f][j]? = some u → (w.alloc (.cells #[a, b, c, d, e, f] t)).cell? (Addr.add ⟨w.heap.size, 0, none⟩ j) = some u := by
  intro j u hj
  have hb := World.alloc_heap_new w (.cells #[a, b, c, d, e, f] t)
  rw [show (Addr.add ⟨w.heap.size, 0, none⟩ j) = ⟨w.heap.size, j, none⟩ by unfold Addr.add; split <;> simp_all]
  unfold World.cell?
  rw [hb]
  show (#[a, b, c, d, e, f] : Array Value)[j]? = some u
  rw [← Array.getElem?_toList]
  exact hj
def tmC (c : CG) : CG := (c.1, (c.2.1.tame 200 400).1, c.2.2)
def FwI (T : TypeId) (w : World) (l : List CG) (m : Nat) (gk : Nat) (s3 s4 : Value) (wr : World) : Prop :=
  ∃ i : Nat, s4 = .int .i64 (i : Int) ∧ i + gk = m ∧ OwC T wr w.heap.size s3 ((l.take i).map tmC) ∧ Below w.heap.size w wr
set_option maxRecDepth 100000 in
set_option maxHeartbeats 8000000 in
theorem few_any (w : World) (P : Nat → Prop) (v : Value) (cs : List CG) (h : ChsAt w P v cs) (hP : ∀ b, P b → b < w.heap.size) : Calls Tryz.prog 24 #[v] w fun e w' => ∃ v', e = .returned v' ∧ OwC 45 w' w.heap.size v' ((cs.take 12).map tmC) ∧ Below w.heap.size w w' := by
  obtain ⟨ao, cap, rfl, hmx⟩ := h.form
  obtain ⟨m, hm⟩ : ∃ m, cs.length = m := ⟨_, rfl⟩
  have HM := Lib.hid hm
  have HMX : Hid (m ≤ maxLen) := by rw [← hm]; exact hmx
  have HCH := Lib.hid h
  have HPP := Lib.hid hP
  rw [hm] at HCH ⊢
  obtain ⟨res, hres⟩ : ∃ res, ((cs.take 12).map tmC) = res := ⟨_, rfl⟩
  rw [hres]
  have HRES := Lib.hid hres
  clear hres
  obtain ⟨n, hn⟩ : ∃ n, min m 12 = n := ⟨_, rfl⟩
  have HK : Hid (n ≤ m ∧ n ≤ 12 ∧ (n = m ∨ n = 12)) := Lib.hid (by omega)
  have hl : n ≤ 1000000 := by omega
  clear hn
  have HL := Lib.hid hl
  clear h hP hm hmx hl
  go_enter Tryz.func24, Tryz.ntmps24
  go_wp2
  go_loopg [3, 4, 5, 6] n (fun gk s3 s4 s5 s6 wr => FwI 45 w cs n gk s3 s4 wr)
  case atStart => exact ⟨0, rfl, by omega, OwC.nil _ _ _, Below.refl _ _⟩
  case round =>
    obtain ⟨i, rfl, hi, hrow, hb⟩ := hrel
    have HI := Lib.hid hi
    have HROW := Lib.hid hrow
    have HB := Lib.hid hb
    obtain ⟨a3, c3q, e3⟩ := hrow.form
    subst e3
    have i0 : (0 : Int) ≤ (i : Int) := by omega
    by_cases hlt : i < n
    · have hkk := HK.out
      have i1 : (i : Int) < (m : Int) := by omega
      have i2 : (i : Int) < 12 := by omega
      clear hkk
      obtain ⟨r, hr⟩ : ∃ r, cs[i]? = some r := ⟨_, List.getElem?_eq_getElem (by have := HM.out; have := HK.out; omega)⟩
      obtain ⟨b, off, rfl, hpb, hcc⟩ := HCH.out.at hr
      obtain ⟨uk, un, us, uao, ul, ucap, d0, d1, d2, d3, d4, d5, hval, hwf⟩ := hcc.form
      have hbl := HPP.out b hpb
      have C0 : Hid (∀ W, Below w.heap.size wr W → W.cell? ⟨b, off + i * 6, none⟩ = some (.int .i64 r.1) ∧ W.cell? ⟨b, off + i * 6 + 5, none⟩ = some (.bool r.2.2)) := fun W hW => ⟨((hb.trans hW).cell (p := ⟨b, off + i * 6, none⟩) hbl).trans d0, ((hb.trans hW).cell (p := ⟨b, off + i * 6 + 5, none⟩) hbl).trans d5⟩
      obtain ⟨q, hq⟩ : ∃ q, r.2.1.tame 200 400 = q := ⟨_, rfl⟩
      have HT : Hid (∀ W, Below w.heap.size w W → Calls Tryz.prog 40 #[.agg #[.int .i64 uk, .int .i64 un, .string us, .slice uao ul ucap], .int .i64 200, .int .i64 400] W (TameEnd W (r.2.1.tame 200 400))) := fun W hW => tame_walk r.2.1.sz r.2.1 _ W _ 200 400 (Nat.le_refl _) (hval.below hW HPP.out) (fun b hb => Nat.lt_of_lt_of_le (HPP.out b hb) hW.size) (by decide) (by decide) (by decide) (by decide)
      rw [hq] at HT
      have HQ : Hid (tmC r = (r.1, q.1, r.2.2)) := by show _ = _; unfold tmC; rw [hq]
      clear hq
      obtain ⟨⟨kk, kn, ks, kl⟩, ql⟩ := q
      have c1 : wr.cell? ⟨b, off + i * 6 + 1, none⟩ = some (.int .i64 uk) := (hb.cell (p := ⟨b, off + i * 6 + 1, none⟩) hbl).trans d1
      have c2 : wr.cell? ⟨b, off + i * 6 + 1 + 1, none⟩ = some (.int .i64 un) := (hb.cell (p := ⟨b, off + i * 6 + 1 + 1, none⟩) hbl).trans d2
      have c3 : wr.cell? ⟨b, off + i * 6 + 1 + 2, none⟩ = some (.string us) := (hb.cell (p := ⟨b, off + i * 6 + 1 + 2, none⟩) hbl).trans d3
      have c4 : wr.cell? ⟨b, off + i * 6 + 1 + 3, none⟩ = some (.slice uao ul ucap) := (hb.cell (p := ⟨b, off + i * 6 + 1 + 3, none⟩) hbl).trans d4
      have HWF : Hid ((Lit.int .i64 r.1).wf = true) := hwf
      have HR := Lib.hid hr
      have HLT : Hid (i < n) := hlt
      have HBL : Hid (b < w.heap.size) := hbl
      have htl : ((cs.take i).map tmC).length = i := by have := HM.out; have := HK.out; rw [List.length_map, List.length_take]; omega
      rw [htl] at HROW
      have HTL := Lib.hid htl
      clear hrow hb hi hr hlt hbl hpb hcc d0 d1 d2 d3 d4 d5 htl hval hwf
      rw [HTL.out]
      go_wp2_with ((go_at_call 40; go_loud ((with_reducible refine (HT.out _ HB.out).mono ?_); rintro e w5 ⟨v5, rfl, hv5, hb5⟩; obtain ⟨ao5, cap5, hve⟩ := hv5.form; replace hve : v5 = .agg #[.int .i64 kk, .int .i64 kn, .string ks, .slice ao5 kl.length cap5] := hve; subst hve; have HV5 := Lib.hid hv5; have HB5 := Lib.hid hb5; clear hv5 hb5)))
      have HS : Hid (∀ W, Below (w5.heap.size + 1) (w5.alloc (.cells #[.int .i64 kk, .int .i64 kn, .string ks, .slice ao5 kl.length cap5] 33)) W → W.cell? ⟨b, off + i * 6, none⟩ = some (.int .i64 r.1) ∧ W.cell? ⟨b, off + i * 6 + 5, none⟩ = some (.bool r.2.2) ∧ W.cell? ⟨w5.heap.size, 0, none⟩ = some (.int .i64 kk) ∧ W.cell? ⟨w5.heap.size, 1, none⟩ = some (.int .i64 kn) ∧ W.cell? ⟨w5.heap.size, 2, none⟩ = some (.string ks) ∧ W.cell? ⟨w5.heap.size, 3, none⟩ = some (.slice ao5 kl.length cap5)) := fun W hW => by
        obtain ⟨f0, f1⟩ := C0.out W (((HB5.out.mono HB.out.size).alloc (Nat.le_trans HB.out.size HB5.out.size) _).trans (hW.mono (by have := HB.out.size; have := HB5.out.size; omega)))
        exact ⟨f0, f1, box_fourC w5 _ _ _ _ _ W hW⟩
      have HBW : Hid (Below w.heap.size wr w5) := HB5.out.mono HB.out.size
      have HW6 : Hid (OwC 45 w5 w.heap.size (.slice a3 i c3q) ((cs.take i).map tmC)) := HROW.out.below HB5.out
      obtain ⟨W6, hW6⟩ : ∃ W6, W6 = (w5.alloc (.cells #[.int .i64 kk, .int .i64 kn, .string ks, .slice ao5 kl.length cap5] 33)).drew.alloc (.cells #[.int .i64 r.1, .int .i64 kk, .int .i64 kn, .string ks, .slice ao5 kl.length cap5, .bool r.2.2] 45) := ⟨_, rfl⟩
      have h56 : Below w5.heap.size w5 W6 := by rw [hW6]; exact (((Below.refl _ _).alloc (Nat.le_refl _) _).drew).alloc (by simp) _
      have h66 : Below (w5.heap.size + 1) (w5.alloc (.cells #[.int .i64 kk, .int .i64 kn, .string ks, .slice ao5 kl.length cap5] 33)) W6 := by rw [hW6]; exact ((Below.refl _ _).drew).alloc (by simp) _
      have HR6 : Hid (OwC 45 W6 w.heap.size (.slice a3 i c3q) ((cs.take i).map tmC)) := HW6.out.below h56
      have HVV : Hid (ValIs W6 (fun b => w.heap.size ≤ b ∧ b < W6.heap.size ∧ (Value.slice a3 i c3q).ownBlock ≠ some b) (.node kk kn ks kl) (vval (.node kk kn ks kl) ao5 cap5)) :=
        (HV5.out.below h56 (fun b hb => hb.2)).mono fun b hb => ⟨Nat.le_trans HB.out.size hb.1, Nat.lt_of_lt_of_le hb.2 h56.size, fun e => by have := (HROW.out.lt e).2; omega⟩
      have hnw : (∀ j u, (ccell (r.1, .node kk kn ks kl, r.2.2) (ao5, cap5))[j]? = some u → W6.cell? (Addr.add ⟨w5.heap.size + 1, 0, none⟩ j) = some u) := by
        have := cell_six_newC (w5.alloc (.cells #[.int .i64 kk, .int .i64 kn, .string ks, .slice ao5 kl.length cap5] 33)).drew (.int .i64 r.1) (.int .i64 kk) (.int .i64 kn) (.string ks) (.slice ao5 kl.length cap5) (.bool r.2.2) 45
        rw [← hW6] at this
        simpa [ccell, VT.kind, VT.num, VT.text, VT.kids] using this
      have HNW := Lib.hid hnw
      clear hnw
      have hw5 : w.heap.size ≤ w5.heap.size := Nat.le_trans HB.out.size HB5.out.size
      have HN6 : Hid (w.heap.size ≤ W6.heap.size) := Nat.le_trans hw5 h56.size
      have HB6 : Hid (Below w.heap.size w5 W6) := h56.mono hw5
      have HS9 : Hid (∀ w9, Chg (Value.slice a3 i c3q).ownBlock.toList W6 w9 → w9.cell? ⟨b, off + i * 6, none⟩ = some (.int .i64 r.1) ∧ w9.cell? ⟨b, off + i * 6 + 5, none⟩ = some (.bool r.2.2) ∧ w9.cell? ⟨w5.heap.size, 0, none⟩ = some (.int .i64 kk) ∧ w9.cell? ⟨w5.heap.size, 1, none⟩ = some (.int .i64 kn) ∧ w9.cell? ⟨w5.heap.size, 2, none⟩ = some (.string ks) ∧ w9.cell? ⟨w5.heap.size, 3, none⟩ = some (.slice ao5 kl.length cap5)) := fun w9 hc => by
        obtain ⟨s0, s5, s1, s2, s3, s4⟩ := HS.out W6 h66
        have hbl := HBL.out
        have hsz := h56.size
        have hsz2 := h66.size
        have hs5 := HB5.out.size
        have hs6 : w5.heap.size + 1 ≤ W6.heap.size := by simpa using hsz2
        have n1 : b ∉ (Value.slice a3 i c3q).ownBlock.toList := fun h => by have := (HROW.out.lt (by simpa using h)).1; omega
        have n2 : w5.heap.size ∉ (Value.slice a3 i c3q).ownBlock.toList := fun h => by have := (HROW.out.lt (by simpa using h)).2; omega
        exact ⟨(hc.cell (p := ⟨b, off + i * 6, none⟩) (by show b < _; omega) n1).trans s0, (hc.cell (p := ⟨b, off + i * 6 + 5, none⟩) (by show b < _; omega) n1).trans s5, (hc.cell (p := ⟨w5.heap.size, 0, none⟩) (by show w5.heap.size < _; omega) n2).trans s1, (hc.cell (p := ⟨w5.heap.size, 1, none⟩) (by show w5.heap.size < _; omega) n2).trans s2, (hc.cell (p := ⟨w5.heap.size, 2, none⟩) (by show w5.heap.size < _; omega) n2).trans s3, (hc.cell (p := ⟨w5.heap.size, 3, none⟩) (by show w5.heap.size < _; omega) n2).trans s4⟩
      have HT6 : Hid (((cs.take i).map tmC).length ≤ 1000000) := by show _ ≤ _; rw [HTL.out]; have := HLT.out; have := HL.out; omega
      clear h56 h66 c1 c2 c3 c4
      subst hW6
      go_region_held3 (fun w' => w'.cell? ⟨b, off + i * 6, none⟩ = some (.int .i64 r.1) ∧ w'.cell? ⟨b, off + i * 6 + 5, none⟩ = some (.bool r.2.2) ∧ w'.cell? ⟨w5.heap.size, 0, none⟩ = some (.int .i64 kk) ∧ w'.cell? ⟨w5.heap.size, 1, none⟩ = some (.int .i64 kn) ∧ w'.cell? ⟨w5.heap.size, 2, none⟩ = some (.string ks) ∧ w'.cell? ⟨w5.heap.size, 3, none⟩ = some (.slice ao5 kl.length cap5))
        (first | exact HS.out _ (Below.refl _ _) | exact HS.out _ (Below.refl _ _).drew | exact HS.out _ ((Below.refl _ _).drew.alloc (by simp) _) | exact HB9.out)
        (first
          | (refine step_chg (w := (w5.alloc (.cells #[.int .i64 kk, .int .i64 kn, .string ks, .slice ao5 kl.length cap5] 33)).drew.alloc (.cells #[.int .i64 r.1, .int .i64 kk, .int .i64 kn, .string ks, .slice ao5 kl.length cap5, .bool r.2.2] 45)) (N := w.heap.size) (l := (cs.take i).map tmC) (ch := (r.1, .node kk kn ks kl, r.2.2)) (p := (ao5, cap5)) (v := .slice a3 i c3q) (ad := ⟨w5.heap.size + 1, 0, none⟩) (c := 1) Tryz.underlying46 infoC7 rfl _ _ rfl rfl HR6.out rfl HWF.out HVV.out HNW.out HN6.out HT6.out ?_; rw [HTL.out]; intro a9 c9 w9 hr9 hb9 hc9; have HR9 := Lib.hid hr9; have HB9 := Lib.hid (HS9.out _ hc9); have HB10 := Lib.hid hb9; clear hr9 hb9 hc9))
      go_wp2
      go_roundg (gk - 1)
      case measure => have := HI.out; have := HLT.out; omega
      case rel => exact ⟨i + 1, by go_num, by have := HI.out; have := HLT.out; omega, by rw [List.take_add_one, HR.out, List.map_append, Option.toList_some, List.map_cons, List.map_nil, HQ.out]; exact HR9.out, HB.out.trans (HBW.out.trans (HB6.out.trans HB10.out))⟩
    · obtain rfl : n = i := by omega
      have hkk := HK.out
      have hex : ¬ (n : Int) < (m : Int) ∨ ((n : Int) < (m : Int) ∧ ¬ (n : Int) < 12) := by omega
      have hz : cs.take n = cs.take 12 := by
        have hm := HM.out
        rcases hkk.2.2 with e | e
        · rw [List.take_of_length_le (by omega), List.take_of_length_le (by omega)]
        · rw [e]
      have hln : ((cs.take n).map tmC).length = n := by have := HM.out; rw [List.length_map, List.length_take]; omega
      rw [hln] at HROW ⊢
      rw [hz, HRES.out] at HROW
      clear hrow hb hi hlt hkk hz hln
      rcases hex with x1 | ⟨x1, x2⟩
      · go_wp2
        go_ret
        exact ⟨_, rfl, HROW.out, HB.out⟩
      · go_wp2
        go_ret
        exact ⟨_, rfl, HROW.out, HB.out⟩
set_option maxRecDepth 100000 in
set_option maxHeartbeats 8000000 in
theorem to_any (w : World) (P : Nat → Prop) (v : Value) (cs : List CG) (h : ChsAt w P v cs) (hP : ∀ b, P b → b < w.heap.size) (hl : cs.length ≤ 1000000) : Calls Tryz.prog 17 #[v] w fun e w' => ∃ v', e = .returned v' ∧ OwC 35 w' w.heap.size v' (cs.map tmC) ∧ Below w.heap.size w w' := by
  obtain ⟨ao, cap, rfl, hmx⟩ := h.form
  obtain ⟨m, hm⟩ : ∃ m, cs.length = m := ⟨_, rfl⟩
  have HM := Lib.hid hm
  have HMX : Hid (m ≤ maxLen) := by rw [← hm]; exact hmx
  have HCH := Lib.hid h
  have HPP := Lib.hid hP
  rw [hm] at HCH ⊢
  obtain ⟨res, hres⟩ : ∃ res, (cs.map tmC) = res := ⟨_, rfl⟩
  rw [hres]
  have HRES := Lib.hid hres
  clear hres
  obtain ⟨n, hn⟩ : ∃ n, m = n := ⟨_, rfl⟩
  have HK : Hid (n = m) := hn.symm
  have hl : n ≤ 1000000 := by omega
  clear hn
  have HL := Lib.hid hl
  clear h hP hm hmx hl
  go_enter Tryz.func17, Tryz.ntmps17
  go_wp2
  go_loopg [3, 4, 5, 6] n (fun gk s3 s4 s5 s6 wr => FwI 35 w cs n gk s3 s4 wr)
  case atStart => exact ⟨0, rfl, by omega, OwC.nil _ _ _, Below.refl _ _⟩
  case round =>
    obtain ⟨i, rfl, hi, hrow, hb⟩ := hrel
    have HI := Lib.hid hi
    have HROW := Lib.hid hrow
    have HB := Lib.hid hb
    obtain ⟨a3, c3q, e3⟩ := hrow.form
    subst e3
    have i0 : (0 : Int) ≤ (i : Int) := by omega
    by_cases hlt : i < n
    · have hkk := HK.out
      have i1 : (i : Int) < (m : Int) := by omega
      have i2 : (i : Int) ≤ 1000000 := by have := HL.out; omega
      clear hkk
      obtain ⟨r, hr⟩ : ∃ r, cs[i]? = some r := ⟨_, List.getElem?_eq_getElem (by have := HM.out; have := HK.out; omega)⟩
      obtain ⟨b, off, rfl, hpb, hcc⟩ := HCH.out.at hr
      obtain ⟨uk, un, us, uao, ul, ucap, d0, d1, d2, d3, d4, d5, hval, hwf⟩ := hcc.form
      have hbl := HPP.out b hpb
      have C0 : Hid (∀ W, Below w.heap.size wr W → W.cell? ⟨b, off + i * 6, none⟩ = some (.int .i64 r.1) ∧ W.cell? ⟨b, off + i * 6 + 5, none⟩ = some (.bool r.2.2)) := fun W hW => ⟨((hb.trans hW).cell (p := ⟨b, off + i * 6, none⟩) hbl).trans d0, ((hb.trans hW).cell (p := ⟨b, off + i * 6 + 5, none⟩) hbl).trans d5⟩
      obtain ⟨q, hq⟩ : ∃ q, r.2.1.tame 200 400 = q := ⟨_, rfl⟩
      have HT : Hid (∀ W, Below w.heap.size w W → Calls Tryz.prog 40 #[.agg #[.int .i64 uk, .int .i64 un, .string us, .slice uao ul ucap], .int .i64 200, .int .i64 400] W (TameEnd W (r.2.1.tame 200 400))) := fun W hW => tame_walk r.2.1.sz r.2.1 _ W _ 200 400 (Nat.le_refl _) (hval.below hW HPP.out) (fun b hb => Nat.lt_of_lt_of_le (HPP.out b hb) hW.size) (by decide) (by decide) (by decide) (by decide)
      rw [hq] at HT
      have HQ : Hid (tmC r = (r.1, q.1, r.2.2)) := by show _ = _; unfold tmC; rw [hq]
      clear hq
      obtain ⟨⟨kk, kn, ks, kl⟩, ql⟩ := q
      have c1 : wr.cell? ⟨b, off + i * 6 + 1, none⟩ = some (.int .i64 uk) := (hb.cell (p := ⟨b, off + i * 6 + 1, none⟩) hbl).trans d1
      have c2 : wr.cell? ⟨b, off + i * 6 + 1 + 1, none⟩ = some (.int .i64 un) := (hb.cell (p := ⟨b, off + i * 6 + 1 + 1, none⟩) hbl).trans d2
      have c3 : wr.cell? ⟨b, off + i * 6 + 1 + 2, none⟩ = some (.string us) := (hb.cell (p := ⟨b, off + i * 6 + 1 + 2, none⟩) hbl).trans d3
      have c4 : wr.cell? ⟨b, off + i * 6 + 1 + 3, none⟩ = some (.slice uao ul ucap) := (hb.cell (p := ⟨b, off + i * 6 + 1 + 3, none⟩) hbl).trans d4
      have HWF : Hid ((Lit.int .i64 r.1).wf = true) := hwf
      have HR := Lib.hid hr
      have HLT : Hid (i < n) := hlt
      have HBL : Hid (b < w.heap.size) := hbl
      have htl : ((cs.take i).map tmC).length = i := by have := HM.out; have := HK.out; rw [List.length_map, List.length_take]; omega
      rw [htl] at HROW
      have HTL := Lib.hid htl
      clear hrow hb hi hr hlt hbl hpb hcc d0 d1 d2 d3 d4 d5 htl hval hwf
      rw [HTL.out]
      go_wp2_with ((go_at_call 40; go_loud ((with_reducible refine (HT.out _ HB.out).mono ?_); rintro e w5 ⟨v5, rfl, hv5, hb5⟩; obtain ⟨ao5, cap5, hve⟩ := hv5.form; replace hve : v5 = .agg #[.int .i64 kk, .int .i64 kn, .string ks, .slice ao5 kl.length cap5] := hve; subst hve; have HV5 := Lib.hid hv5; have HB5 := Lib.hid hb5; clear hv5 hb5)))
      have HS : Hid (∀ W, Below (w5.heap.size + 1) (w5.alloc (.cells #[.int .i64 kk, .int .i64 kn, .string ks, .slice ao5 kl.length cap5] 33)) W → W.cell? ⟨b, off + i * 6, none⟩ = some (.int .i64 r.1) ∧ W.cell? ⟨b, off + i * 6 + 5, none⟩ = some (.bool r.2.2) ∧ W.cell? ⟨w5.heap.size, 0, none⟩ = some (.int .i64 kk) ∧ W.cell? ⟨w5.heap.size, 1, none⟩ = some (.int .i64 kn) ∧ W.cell? ⟨w5.heap.size, 2, none⟩ = some (.string ks) ∧ W.cell? ⟨w5.heap.size, 3, none⟩ = some (.slice ao5 kl.length cap5)) := fun W hW => by
        obtain ⟨f0, f1⟩ := C0.out W (((HB5.out.mono HB.out.size).alloc (Nat.le_trans HB.out.size HB5.out.size) _).trans (hW.mono (by have := HB.out.size; have := HB5.out.size; omega)))
        exact ⟨f0, f1, box_fourC w5 _ _ _ _ _ W hW⟩
      have HBW : Hid (Below w.heap.size wr w5) := HB5.out.mono HB.out.size
      have HW6 : Hid (OwC 35 w5 w.heap.size (.slice a3 i c3q) ((cs.take i).map tmC)) := HROW.out.below HB5.out
      obtain ⟨W6, hW6⟩ : ∃ W6, W6 = (w5.alloc (.cells #[.int .i64 kk, .int .i64 kn, .string ks, .slice ao5 kl.length cap5] 33)).drew.alloc (.cells #[.int .i64 r.1, .int .i64 kk, .int .i64 kn, .string ks, .slice ao5 kl.length cap5, .bool r.2.2] 35) := ⟨_, rfl⟩
      have h56 : Below w5.heap.size w5 W6 := by rw [hW6]; exact (((Below.refl _ _).alloc (Nat.le_refl _) _).drew).alloc (by simp) _
      have h66 : Below (w5.heap.size + 1) (w5.alloc (.cells #[.int .i64 kk, .int .i64 kn, .string ks, .slice ao5 kl.length cap5] 33)) W6 := by rw [hW6]; exact ((Below.refl _ _).drew).alloc (by simp) _
      have HR6 : Hid (OwC 35 W6 w.heap.size (.slice a3 i c3q) ((cs.take i).map tmC)) := HW6.out.below h56
      have HVV : Hid (ValIs W6 (fun b => w.heap.size ≤ b ∧ b < W6.heap.size ∧ (Value.slice a3 i c3q).ownBlock ≠ some b) (.node kk kn ks kl) (vval (.node kk kn ks kl) ao5 cap5)) :=
        (HV5.out.below h56 (fun b hb => hb.2)).mono fun b hb => ⟨Nat.le_trans HB.out.size hb.1, Nat.lt_of_lt_of_le hb.2 h56.size, fun e => by have := (HROW.out.lt e).2; omega⟩
      have hnw : (∀ j u, (ccell (r.1, .node kk kn ks kl, r.2.2) (ao5, cap5))[j]? = some u → W6.cell? (Addr.add ⟨w5.heap.size + 1, 0, none⟩ j) = some u) := by
        have := cell_six_newC (w5.alloc (.cells #[.int .i64 kk, .int .i64 kn, .string ks, .slice ao5 kl.length cap5] 33)).drew (.int .i64 r.1) (.int .i64 kk) (.int .i64 kn) (.string ks) (.slice ao5 kl.length cap5) (.bool r.2.2) 35
        rw [← hW6] at this
        simpa [ccell, VT.kind, VT.num, VT.text, VT.kids] using this
      have HNW := Lib.hid hnw
      clear hnw
      have hw5 : w.heap.size ≤ w5.heap.size := Nat.le_trans HB.out.size HB5.out.size
      have HN6 : Hid (w.heap.size ≤ W6.heap.size) := Nat.le_trans hw5 h56.size
      have HB6 : Hid (Below w.heap.size w5 W6) := h56.mono hw5
      have HS9 : Hid (∀ w9, Chg (Value.slice a3 i c3q).ownBlock.toList W6 w9 → w9.cell? ⟨b, off + i * 6, none⟩ = some (.int .i64 r.1) ∧ w9.cell? ⟨b, off + i * 6 + 5, none⟩ = some (.bool r.2.2) ∧ w9.cell? ⟨w5.heap.size, 0, none⟩ = some (.int .i64 kk) ∧ w9.cell? ⟨w5.heap.size, 1, none⟩ = some (.int .i64 kn) ∧ w9.cell? ⟨w5.heap.size, 2, none⟩ = some (.string ks) ∧ w9.cell? ⟨w5.heap.size, 3, none⟩ = some (.slice ao5 kl.length cap5)) := fun w9 hc => by
        obtain ⟨s0, s5, s1, s2, s3, s4⟩ := HS.out W6 h66
        have hbl := HBL.out
        have hsz := h56.size
        have hsz2 := h66.size
        have hs5 := HB5.out.size
        have hs6 : w5.heap.size + 1 ≤ W6.heap.size := by simpa using hsz2
        have n1 : b ∉ (Value.slice a3 i c3q).ownBlock.toList := fun h => by have := (HROW.out.lt (by simpa using h)).1; omega
        have n2 : w5.heap.size ∉ (Value.slice a3 i c3q).ownBlock.toList := fun h => by have := (HROW.out.lt (by simpa using h)).2; omega
        exact ⟨(hc.cell (p := ⟨b, off + i * 6, none⟩) (by show b < _; omega) n1).trans s0, (hc.cell (p := ⟨b, off + i * 6 + 5, none⟩) (by show b < _; omega) n1).trans s5, (hc.cell (p := ⟨w5.heap.size, 0, none⟩) (by show w5.heap.size < _; omega) n2).trans s1, (hc.cell (p := ⟨w5.heap.size, 1, none⟩) (by show w5.heap.size < _; omega) n2).trans s2, (hc.cell (p := ⟨w5.heap.size, 2, none⟩) (by show w5.heap.size < _; omega) n2).trans s3, (hc.cell (p := ⟨w5.heap.size, 3, none⟩) (by show w5.heap.size < _; omega) n2).trans s4⟩
      have HT6 : Hid (((cs.take i).map tmC).length ≤ 1000000) := by show _ ≤ _; rw [HTL.out]; have := HLT.out; have := HL.out; omega
      clear h56 h66 c1 c2 c3 c4
      subst hW6
      go_region_held3 (fun w' => w'.cell? ⟨b, off + i * 6, none⟩ = some (.int .i64 r.1) ∧ w'.cell? ⟨b, off + i * 6 + 5, none⟩ = some (.bool r.2.2) ∧ w'.cell? ⟨w5.heap.size, 0, none⟩ = some (.int .i64 kk) ∧ w'.cell? ⟨w5.heap.size, 1, none⟩ = some (.int .i64 kn) ∧ w'.cell? ⟨w5.heap.size, 2, none⟩ = some (.string ks) ∧ w'.cell? ⟨w5.heap.size, 3, none⟩ = some (.slice ao5 kl.length cap5))
        (first | exact HS.out _ (Below.refl _ _) | exact HS.out _ (Below.refl _ _).drew | exact HS.out _ ((Below.refl _ _).drew.alloc (by simp) _) | exact HB9.out)
        (first
          | (refine step_chg (w := (w5.alloc (.cells #[.int .i64 kk, .int .i64 kn, .string ks, .slice ao5 kl.length cap5] 33)).drew.alloc (.cells #[.int .i64 r.1, .int .i64 kk, .int .i64 kn, .string ks, .slice ao5 kl.length cap5, .bool r.2.2] 35)) (N := w.heap.size) (l := (cs.take i).map tmC) (ch := (r.1, .node kk kn ks kl, r.2.2)) (p := (ao5, cap5)) (v := .slice a3 i c3q) (ad := ⟨w5.heap.size + 1, 0, none⟩) (c := 1) Tryz.underlying47 infoC rfl _ _ rfl rfl HR6.out rfl HWF.out HVV.out HNW.out HN6.out HT6.out ?_; rw [HTL.out]; intro a9 c9 w9 hr9 hb9 hc9; have HR9 := Lib.hid hr9; have HB9 := Lib.hid (HS9.out _ hc9); have HB10 := Lib.hid hb9; clear hr9 hb9 hc9))
      go_wp2
      go_roundg (gk - 1)
      case measure => have := HI.out; have := HLT.out; omega
      case rel => exact ⟨i + 1, by go_num, by have := HI.out; have := HLT.out; omega, by rw [List.take_add_one, HR.out, List.map_append, Option.toList_some, List.map_cons, List.map_nil, HQ.out]; exact HR9.out, HB.out.trans (HBW.out.trans (HB6.out.trans HB10.out))⟩
    · obtain rfl : n = i := by omega
      have hkk := HK.out
      have x1 : ¬ (n : Int) < (m : Int) := by omega
      have hz : cs.take n = cs := List.take_of_length_le (by have := HM.out; omega)
      have hln : ((cs.take n).map tmC).length = n := by have := HM.out; rw [List.length_map, List.length_take]; omega
      rw [hln] at HROW ⊢
      rw [hz, HRES.out] at HROW
      clear hrow hb hi hlt hkk hz hln
      go_wp2
      go_ret
      exact ⟨_, rfl, HROW.out, HB.out⟩
end Go.Proofs.YtcpgbekcbaelpaaGreatDoor
