/- How a heap lies in memory: a header of four cells, two rows and a map; and what the small functions on words come to. -/
import Derived.Test.YtlbiapgikkjooaaProg
import Derived.Test.YtlbiapgikkjooaaMem
import Derived.Test.YtlbiapgikkjooaaBits
import Derived.Test.YtlbiapgikkjooaaHeapOps
import Derived.WalkLawsBesides
import Derived.Lib.Hide
import Derived.Deep.QuietTactic
import Derived.BigQuiet
import Derived.Deep.RegionHeld3
import Derived.StillTailTactics
namespace Go.Proofs.Ytlbiapgikkjooaa
open Go.RowKit Go.Maps Hp
set_option linter.unusedSimpArgs false
set_option linter.unusedVariables false
set_option linter.unusedSectionVars false

theorem info3 : (Try.prog.info? 3).map (fun i => (i.zero, i.size, i.bytes)) = some (some (.int .i64 0), 1, 8) := by kernel_rfl
theorem infoW : (Try.prog.info? 22).map (fun i => (i.zero, i.size, i.bytes)) = some (some (.int .i64 0), 1, 8) := by kernel_rfl

def ints (l : List Int) : List Value := l.map (Value.int .i64)
theorem ints_length (l : List Int) : (ints l).length = l.length := by simp [ints]
theorem ints_append (l r : List Int) : ints (l ++ r) = ints l ++ ints r := by simp [ints]
theorem ints_get (l : List Int) (i : Nat) : (ints l)[i]? = (l[i]?).map (Value.int .i64) := by simp [ints]

/-- The heap's header and what it leads to. -/
structure HeapIs (w : World) (p bp np : Nat) (vc vs : Value) (lim : Nat) (cells stack : List Int) (pins : Int → Option Int) : Prop where
  hdr : w.heap[p]? = some (.cells #[.int .i64 lim, vc, vs, .map (some bp)] 76 (0, 0))
  rc : Row w 3 vc (ints cells)
  rs : Row w 22 vs (ints stack)
  pm : IMap Try.prog 3 22 w bp np pins
  ne1 : p ≠ bp
  ne2 : vc.ownBlock ≠ some p
  ne3 : vc.ownBlock ≠ some bp
  ne4 : vs.ownBlock ≠ some p
  ne5 : vs.ownBlock ≠ some bp
  ne6 : ∀ k, vc.ownBlock = some k → vs.ownBlock ≠ some k

def foot (p bp : Nat) (vc vs : Value) : List Nat := p :: bp :: (vc.ownBlock.toList ++ vs.ownBlock.toList)
theorem mem_foot {p bp k : Nat} {vc vs : Value} : k ∈ foot p bp vc vs ↔ k = p ∨ k = bp ∨ vc.ownBlock = some k ∨ vs.ownBlock = some k := by
  simp [foot]

section
variable {w w' : World} {p bp np lim : Nat} {vc vs : Value} {cells stack : List Int} {pins : Int → Option Int}

theorem HeapIs.c0 (h : HeapIs w p bp np vc vs lim cells stack pins) : w.cell? ⟨p, 0, none⟩ = some (.int .i64 lim) := by simp [World.cell?, h.hdr]
theorem HeapIs.c1 (h : HeapIs w p bp np vc vs lim cells stack pins) : w.cell? ⟨p, 1, none⟩ = some vc := by simp [World.cell?, h.hdr]
theorem HeapIs.c2 (h : HeapIs w p bp np vc vs lim cells stack pins) : w.cell? ⟨p, 2, none⟩ = some vs := by simp [World.cell?, h.hdr]
theorem HeapIs.c3 (h : HeapIs w p bp np vc vs lim cells stack pins) : w.cell? ⟨p, 3, none⟩ = some (.map (some bp)) := by simp [World.cell?, h.hdr]
theorem HeapIs.fr (h : HeapIs w p bp np vc vs lim cells stack pins) (o : Nat) : w.frozen? ⟨p, o, none⟩ = false := by simp [World.frozen?, h.hdr]
theorem HeapIs.lt (h : HeapIs w p bp np vc vs lim cells stack pins) : ∀ k ∈ foot p bp vc vs, k < w.heap.size := fun k hk => by
  rcases mem_foot.1 hk with rfl | rfl | hk | hk
  · exact lt_of_block h.hdr
  · exact h.pm.lt
  · exact h.rc.lt hk
  · exact h.rs.lt hk

theorem hdr_cell0 {a b c d : Value} {t : TypeId} (h : w.heap[p]? = some (.cells #[a, b, c, d] t (0, 0))) : w.cell? ⟨p, 0, none⟩ = some a := by simp [World.cell?, h]
theorem hdr_cell1 {a b c d : Value} {t : TypeId} (h : w.heap[p]? = some (.cells #[a, b, c, d] t (0, 0))) : w.cell? ⟨p, 1, none⟩ = some b := by simp [World.cell?, h]
theorem hdr_cell2 {a b c d : Value} {t : TypeId} (h : w.heap[p]? = some (.cells #[a, b, c, d] t (0, 0))) : w.cell? ⟨p, 2, none⟩ = some c := by simp [World.cell?, h]
theorem hdr_cell3 {a b c d : Value} {t : TypeId} (h : w.heap[p]? = some (.cells #[a, b, c, d] t (0, 0))) : w.cell? ⟨p, 3, none⟩ = some d := by simp [World.cell?, h]
theorem hdr_free {a b c d : Value} {t : TypeId} (h : w.heap[p]? = some (.cells #[a, b, c, d] t (0, 0))) (o : Nat) : w.frozen? ⟨p, o, none⟩ = false := by simp [World.frozen?, h]

/-- Other blocks may turn. -/
theorem HeapIs.chg {G : List Nat} (h : HeapIs w p bp np vc vs lim cells stack pins) (hc : Chg G w w') (hd : ∀ k ∈ foot p bp vc vs, k ∉ G) : HeapIs w' p bp np vc vs lim cells stack pins :=
  ⟨(hc.block p (lt_of_block h.hdr) (hd p (mem_foot.2 (.inl rfl)))).trans h.hdr, h.rc.chg hc (fun k hk => hd k (mem_foot.2 (.inr (.inr (.inl hk))))), h.rs.chg hc (fun k hk => hd k (mem_foot.2 (.inr (.inr (.inr hk))))),
    h.pm.chg hc (hd bp (mem_foot.2 (.inr (.inl rfl)))), h.ne1, h.ne2, h.ne3, h.ne4, h.ne5, h.ne6⟩
theorem HeapIs.alloc (h : HeapIs w p bp np vc vs lim cells stack pins) (o : Obj) : HeapIs (w.alloc o) p bp np vc vs lim cells stack pins := h.chg ((Chg.refl [] w).alloc o) (fun _ _ => by simp)
theorem HeapIs.drewN (h : HeapIs w p bp np vc vs lim cells stack pins) (n : Nat) : HeapIs (w.drewN n) p bp np vc vs lim cells stack pins := h.chg ((Chg.refl [] w).drewN n) (fun _ _ => by simp)

/-- A store into the header. -/
theorem hdr_set {a b c d u : Value} {t : TypeId} {o : Nat} (h : w.heap[p]? = some (.cells #[a, b, c, d] t (0, 0))) : (w.setCell ⟨p, o, none⟩ u).heap[p]? = some (.cells (#[a, b, c, d].setIfInBounds o u) t (0, 0)) := by
  have hlt := lt_of_block h
  have h' : w.heap[p] = .cells #[a, b, c, d] t (0, 0) := by simpa [Array.getElem?_eq_getElem hlt] using h
  show (w.heap.modify p _)[p]? = _
  rw [Array.getElem?_eq_getElem (by simpa using hlt), Array.getElem_modify_self, h']
  rfl
theorem chg_set (w : World) (p o : Nat) (u : Value) : Chg [p] w (w.setCell ⟨p, o, none⟩ u) := (Chg.refl [p] w).setCell (.inl (by simp)) u

/-- The stack has become another row. -/
theorem HeapIs.setStack {vs' : Value} {stack' : List Int} (h : HeapIs w p bp np vc vs lim cells stack pins) (hr : Row w 22 vs' (ints stack'))
    (hv : vs'.ownBlock = vs.ownBlock ∨ (∀ k, vs'.ownBlock = some k → k ≠ p ∧ k ≠ bp ∧ vc.ownBlock ≠ some k)) : HeapIs (w.setCell ⟨p, 2, none⟩ vs') p bp np vc vs' lim cells stack' pins := by
  have hc := chg_set w p 2 vs'
  have k1 : vs'.ownBlock ≠ some p := by rcases hv with e | e; exact e ▸ h.ne4; exact fun e2 => (e p e2).1 rfl
  have k2 : vs'.ownBlock ≠ some bp := by rcases hv with e | e; exact e ▸ h.ne5; exact fun e2 => (e bp e2).2.1 rfl
  refine ⟨(hdr_set h.hdr).trans rfl, h.rc.chg hc (fun k hk hm => ?_), hr.chg hc (fun k hk hm => ?_), h.pm.chg hc (fun hm => ?_), h.ne1, h.ne2, h.ne3, k1, k2, fun k hk => ?_⟩
  · rw [List.mem_singleton] at hm; subst hm; exact h.ne2 hk
  · rw [List.mem_singleton] at hm; subst hm; exact k1 hk
  · rw [List.mem_singleton] at hm; exact h.ne1 hm.symm
  · rcases hv with e | e
    · exact e ▸ h.ne6 k hk
    · exact fun e2 => (e k e2).2.2 hk
theorem HeapIs.setCells {vc' : Value} {cells' : List Int} (h : HeapIs w p bp np vc vs lim cells stack pins) (hr : Row w 3 vc' (ints cells'))
    (hv : vc'.ownBlock = vc.ownBlock ∨ (∀ k, vc'.ownBlock = some k → k ≠ p ∧ k ≠ bp ∧ vs.ownBlock ≠ some k)) : HeapIs (w.setCell ⟨p, 1, none⟩ vc') p bp np vc' vs lim cells' stack pins := by
  have hc := chg_set w p 1 vc'
  have k1 : vc'.ownBlock ≠ some p := by rcases hv with e | e; exact e ▸ h.ne2; exact fun e2 => (e p e2).1 rfl
  have k2 : vc'.ownBlock ≠ some bp := by rcases hv with e | e; exact e ▸ h.ne3; exact fun e2 => (e bp e2).2.1 rfl
  refine ⟨(hdr_set h.hdr).trans rfl, hr.chg hc (fun k hk hm => ?_), h.rs.chg hc (fun k hk hm => ?_), h.pm.chg hc (fun hm => ?_), h.ne1, k1, k2, h.ne4, h.ne5, fun k hk => ?_⟩
  · rw [List.mem_singleton] at hm; subst hm; exact k1 hk
  · rw [List.mem_singleton] at hm; subst hm; exact h.ne4 hk
  · rw [List.mem_singleton] at hm; exact h.ne1 hm.symm
  · rcases hv with e | e
    · rw [e] at hk; exact h.ne6 k hk
    · exact (e k hk).2.2
end

/-- An append to a row has left this: the row, and what has turned. -/
theorem row_of {w : World} {e : TypeId} {v : Value} {n : Nat} {xs : List Value} (h : w.ownsRow 0 e 1 v n xs) : Row w e v xs := by
  have := h.1
  rw [Nat.mul_one] at this
  unfold Row
  rw [this]; exact h

section
variable {w w1 : World} {p bp np lim : Nat} {vc vs v' : Value} {cells stack : List Int} {pins : Int → Option Int} {o : Obj} {n : Nat} {xs : List Value}
theorem HeapIs.stackApp (h : HeapIs w p bp np vc vs lim cells stack pins) (hg : (w.alloc o).grownBy w1 vs.ownBlock) {G : List Nat} (hG : ∀ k, vs.ownBlock = some k → k ∈ G) : Chg G w w1 :=
  ((Chg.refl G w).alloc o).grown hg (fun k hk => .inl (hG k hk))
theorem HeapIs.cellsApp (_h : HeapIs w p bp np vc vs lim cells stack pins) (hg : (w.alloc o).grownBy w1 vc.ownBlock) {G : List Nat} (hG : ∀ k, vc.ownBlock = some k → k ∈ G) : Chg G w w1 :=
  ((Chg.refl G w).alloc o).grown hg (fun k hk => .inl (hG k hk))

/-- The header and the rest behind an append to the stack. -/
theorem HeapIs.stackApp_hdr (h : HeapIs w p bp np vc vs lim cells stack pins) (hg : (w.alloc o).grownBy w1 vs.ownBlock) : w1.heap[p]? = some (.cells #[.int .i64 lim, vc, vs, .map (some bp)] 76 (0, 0)) :=
  ((h.stackApp hg (G := vs.ownBlock.toList) (fun k hk => by simp [hk])).block p (lt_of_block h.hdr) (by simpa using fun e => h.ne4 e)).trans h.hdr
theorem HeapIs.cellsApp_hdr (h : HeapIs w p bp np vc vs lim cells stack pins) (hg : (w.alloc o).grownBy w1 vc.ownBlock) : w1.heap[p]? = some (.cells #[.int .i64 lim, vc, vs, .map (some bp)] 76 (0, 0)) :=
  ((h.cellsApp hg (G := vc.ownBlock.toList) (fun k hk => by simp [hk])).block p (lt_of_block h.hdr) (by simpa using fun e => h.ne2 e)).trans h.hdr

/-- Behind 'h.stack = append(h.stack, ..)'. -/
theorem HeapIs.stackApp_is {stack' : List Int} (h : HeapIs w p bp np vc vs lim cells stack pins) (hg : (w.alloc o).grownBy w1 vs.ownBlock) (ho : Row w1 22 v' (ints stack'))
    (hl : v'.ownBlock = vs.ownBlock ∨ v'.ownBlock = some (w.heap.size + 1)) :
    HeapIs (w1.setCell ⟨p, 2, none⟩ v') p bp np vc v' lim cells stack' pins ∧ Chg (foot p bp vc vs) w (w1.setCell ⟨p, 2, none⟩ v') ∧ Within (foot p bp vc vs) (foot p bp vc v') w.heap.size := by
  have hc := h.stackApp hg (G := vs.ownBlock.toList) (fun k hk => by simp [hk])
  have hn : ∀ k, k < w.heap.size → v'.ownBlock = some k → vs.ownBlock = some k := fun k hk e => by
    rcases hl with e2 | e2
    · rw [← e2]; exact e
    · rw [e2] at e; simp at e; omega
  have h1 : HeapIs (w1.setCell ⟨p, 2, none⟩ v') p bp np vc v' lim cells stack' pins := by
    have hc2 := chg_set w1 p 2 v'
    have k1 : v'.ownBlock ≠ some p := fun e => h.ne4 (hn p (lt_of_block h.hdr) e)
    have k2 : v'.ownBlock ≠ some bp := fun e => h.ne5 (hn bp h.pm.lt e)
    refine ⟨(hdr_set (h.stackApp_hdr hg)).trans rfl, (h.rc.chg hc (fun k hk hm => h.ne6 k hk (by simpa using hm))).chg hc2 (fun k hk hm => ?_), ho.chg hc2 (fun k hk hm => ?_),
      (h.pm.chg hc (by simpa using fun e => h.ne5 e)).chg hc2 (fun hm => ?_), h.ne1, h.ne2, h.ne3, k1, k2, fun k hk e => h.ne6 k hk (hn k (h.rc.lt hk) e)⟩
    · rw [List.mem_singleton] at hm; subst hm; exact h.ne2 hk
    · rw [List.mem_singleton] at hm; subst hm; exact k1 hk
    · rw [List.mem_singleton] at hm; exact h.ne1 hm.symm
  refine ⟨h1, (hc.mono (fun k hk => mem_foot.2 (.inr (.inr (.inr (by simpa using hk)))))).setCell (F := foot p bp vc vs) (p := ⟨p, 2, none⟩) (.inl (mem_foot.2 (.inl rfl))) v', fun k hk => ?_⟩
  rcases mem_foot.1 hk with e | e | e | e
  · exact .inl (mem_foot.2 (.inl e))
  · exact .inl (mem_foot.2 (.inr (.inl e)))
  · exact .inl (mem_foot.2 (.inr (.inr (.inl e))))
  · rcases hl with e2 | e2
    · exact .inl (mem_foot.2 (.inr (.inr (.inr (e2 ▸ e)))))
    · rw [e2] at e; simp at e; right; omega

/-- Behind 'h.cells = append(h.cells, ..)'. -/
theorem HeapIs.cellsApp_is {cells' : List Int} (h : HeapIs w p bp np vc vs lim cells stack pins) (hg : (w.alloc o).grownBy w1 vc.ownBlock) (ho : Row w1 3 v' (ints cells'))
    (hl : v'.ownBlock = vc.ownBlock ∨ v'.ownBlock = some (w.heap.size + 1)) :
    HeapIs (w1.setCell ⟨p, 1, none⟩ v') p bp np v' vs lim cells' stack pins ∧ Chg (foot p bp vc vs) w (w1.setCell ⟨p, 1, none⟩ v') ∧ Within (foot p bp vc vs) (foot p bp v' vs) w.heap.size := by
  have hc := h.cellsApp hg (G := vc.ownBlock.toList) (fun k hk => by simp [hk])
  have hn : ∀ k, k < w.heap.size → v'.ownBlock = some k → vc.ownBlock = some k := fun k hk e => by
    rcases hl with e2 | e2
    · rw [← e2]; exact e
    · rw [e2] at e; simp at e; omega
  have h1 : HeapIs (w1.setCell ⟨p, 1, none⟩ v') p bp np v' vs lim cells' stack pins := by
    have hc2 := chg_set w1 p 1 v'
    have k1 : v'.ownBlock ≠ some p := fun e => h.ne2 (hn p (lt_of_block h.hdr) e)
    have k2 : v'.ownBlock ≠ some bp := fun e => h.ne3 (hn bp h.pm.lt e)
    refine ⟨(hdr_set (h.cellsApp_hdr hg)).trans rfl, ho.chg hc2 (fun k hk hm => ?_), (h.rs.chg hc (fun k hk hm => h.ne6 k (by simpa using hm) hk)).chg hc2 (fun k hk hm => ?_),
      (h.pm.chg hc (by simpa using fun e => h.ne3 e)).chg hc2 (fun hm => ?_), h.ne1, k1, k2, h.ne4, h.ne5, fun k hk e => h.ne6 k (hn k (h.rs.lt e) hk) e⟩
    · rw [List.mem_singleton] at hm; subst hm; exact k1 hk
    · rw [List.mem_singleton] at hm; subst hm; exact h.ne4 hk
    · rw [List.mem_singleton] at hm; exact h.ne1 hm.symm
  refine ⟨h1, (hc.mono (fun k hk => mem_foot.2 (.inr (.inr (.inl (by simpa using hk)))))).setCell (F := foot p bp vc vs) (p := ⟨p, 1, none⟩) (.inl (mem_foot.2 (.inl rfl))) v', fun k hk => ?_⟩
  rcases mem_foot.1 hk with e | e | e | e
  · exact .inl (mem_foot.2 (.inl e))
  · exact .inl (mem_foot.2 (.inr (.inl e)))
  · rcases hl with e2 | e2
    · exact .inl (mem_foot.2 (.inr (.inr (.inl (e2 ▸ e)))))
    · rw [e2] at e; simp at e; right; omega
  · exact .inl (mem_foot.2 (.inr (.inr (.inr e))))
end
end Go.Proofs.Ytlbiapgikkjooaa
