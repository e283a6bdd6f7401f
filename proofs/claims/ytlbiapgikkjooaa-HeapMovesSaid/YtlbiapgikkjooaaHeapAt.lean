/- The calls of a heap, said of the heap of the document: HeapAt ties the two. -/
import Derived.Test.YtlbiapgikkjooaaHeapWalk9
namespace Go.Proofs.Ytlbiapgikkjooaa
open Go.RowKit Go.Maps Hp
set_option linter.unusedSimpArgs false
set_option linter.unusedVariables false
set_option linter.unusedSectionVars false

/-- At p lies a heap in the blocks F, object i at φ i; m: pins that were ever set, at most. -/
def HeapAt (w : World) (p : Nat) (F : List Nat) (A : AH) (φ : Nat → Nat) (m : Nat) : Prop :=
  ∃ bp np vc vs cells stack pins, HeapIs w p bp np vc vs A.limit cells stack pins ∧ Rep A φ cells stack pins ∧ foot p bp vc vs = F ∧ np ≤ m ∧ A.limit ≤ 4194304

/-- Behind a call that leaves the objects where they are. -/
def Kept (w : World) (p : Nat) (F : List Nat) (A : AH) (φ : Nat → Nat) (m : Nat) (v : Value) (e : Ending) (w' : World) : Prop :=
  e = .returned v ∧ ∃ F', HeapAt w' p F' A φ m ∧ Chg F w w' ∧ Within F F' w.heap.size
/-- Behind a call that may move them. -/
def Turned (w : World) (p : Nat) (F : List Nat) (A : AH) (m : Nat) (v : Value) (e : Ending) (w' : World) : Prop :=
  e = .returned v ∧ ∃ φ F', HeapAt w' p F' A φ m ∧ Chg F w w' ∧ Within F F' w.heap.size

section
variable {w w' : World} {p m : Nat} {F : List Nat} {A : AH} {φ : Nat → Nat}

theorem HeapAt.chg {G : List Nat} (h : HeapAt w p F A φ m) (hc : Chg G w w') (hd : ∀ k ∈ F, k ∉ G) : HeapAt w' p F A φ m := by
  obtain ⟨bp, np, vc, vs, cells, stack, pins, h1, h2, rfl, h4, h5⟩ := h
  exact ⟨bp, np, vc, vs, cells, stack, pins, h1.chg hc hd, h2, rfl, h4, h5⟩
theorem HeapAt.drewN (h : HeapAt w p F A φ m) (n : Nat) : HeapAt (w.drewN n) p F A φ m := h.chg ((Chg.refl [] w).drewN n) (fun _ _ => by simp)
theorem HeapAt.lt (h : HeapAt w p F A φ m) {k : Nat} (hk : k ∈ F) : k < w.heap.size := by
  obtain ⟨bp, np, vc, vs, cells, stack, pins, h1, h2, rfl, h4, h5⟩ := h
  exact h1.foot_lt hk
theorem HeapAt.wf (h : HeapAt w p F A φ m) : A.Wf := by
  obtain ⟨bp, np, vc, vs, cells, stack, pins, h1, h2, _⟩ := h
  exact h2.wf
theorem HeapAt.mono (h : HeapAt w p F A φ m) {m' : Nat} (hm : m ≤ m') : HeapAt w p F A φ m' := by
  obtain ⟨bp, np, vc, vs, cells, stack, pins, h1, h2, h3, h4, h5⟩ := h
  exact ⟨bp, np, vc, vs, cells, stack, pins, h1, h2, h3, by omega, h5⟩

theorem at_push (h : HeapAt w p F A φ m) (hst : A.stack.length < 1000000000) {r : Ref} (hr : A.Ok r) :
    Calls Try.prog 15 #[.pointer (some ⟨p, 0, none⟩), .int .i64 (word φ r)] w (Kept w p F (A.push r) φ m (.tuple #[])) := by
  obtain ⟨bp, np, vc, vs, cells, stack, pins, h1, h2, rfl, h4, h5⟩ := h
  refine (push_any w p bp np vc vs A.limit cells stack pins h1 (word φ r) (by rw [h2.stack, List.length_map]; exact hst)).mono ?_
  rintro e w' ⟨he, vc', vs', g1, g2, g3⟩
  exact ⟨he, _, ⟨bp, np, vc', vs', cells, _, pins, g1, h2.push hr, rfl, h4, h5⟩, g2, g3⟩

theorem at_height (h : HeapAt w p F A φ m) : Calls Try.prog 19 #[.pointer (some ⟨p, 0, none⟩)] w fun e w' => e = .returned (.int .i64 A.stack.length) ∧ w = w' := by
  obtain ⟨bp, np, vc, vs, cells, stack, pins, h1, h2, rfl, h4, h5⟩ := h
  have := height_any w p bp np vc vs A.limit cells stack pins h1
  rw [h2.stack, List.length_map] at this
  exact this
theorem at_cells (h : HeapAt w p F A φ m) : Calls Try.prog 32 #[.pointer (some ⟨p, 0, none⟩)] w fun e w' => e = .returned (.int .i64 A.limit) ∧ w = w' := by
  obtain ⟨bp, np, vc, vs, cells, stack, pins, h1, h2, rfl, h4, h5⟩ := h
  exact cells_any w p bp np vc vs A.limit cells stack pins h1

theorem at_drop (h : HeapAt w p F A φ m) (n : Int) :
    Calls Try.prog 17 #[.pointer (some ⟨p, 0, none⟩), .int .i64 n] w (Kept w p F (A.drop (dropOf n)) φ m (.tuple #[])) := by
  obtain ⟨bp, np, vc, vs, cells, stack, pins, h1, h2, rfl, h4, h5⟩ := h
  refine (drop_any w p bp np vc vs A.limit cells stack pins h1 n).mono ?_
  rintro e w' ⟨he, vc', vs', g1, g2, g3⟩
  exact ⟨he, _, ⟨bp, np, vc', vs', cells, _, pins, g1, h2.drop (dropOf n), rfl, h4, h5⟩, g2, g3⟩

theorem at_live (h : HeapAt w p F A φ m) (hst : A.stack.length < 1000000000) (hm : m < 1000000000) :
    Calls Try.prog 18 #[.pointer (some ⟨p, 0, none⟩)] w (Turned w p F A m (.int .i64 A.live)) := by
  obtain ⟨bp, np, vc, vs, cells, stack, pins, h1, h2, rfl, h4, h5⟩ := h
  refine (live_any h1 h2 h5 (by rw [h2.stack, List.length_map]; exact hst) (by omega)).mono ?_
  rintro e w' ⟨vc', φ', cells', stack', pins', he, g1, g2, g3, g4⟩
  exact ⟨he, φ', _, ⟨bp, np, vc', vs, cells', stack', pins', g1, g2, rfl, h4, h5⟩, g3, g4⟩

theorem PutEnd.at {bp np : Nat} {vc vs : Value} {o : Ob} {n : Nat} {e : Ending} (h : PutEnd A w p bp np vc vs o n e w') (hm : np ≤ m) (hlim : A.limit ≤ 4194304) :
    Turned w p (foot p bp vc vs) (if A.live + o.size ≤ A.limit then A.add o n else A) m (.int .i64 (if A.live + o.size ≤ A.limit then 0 else 14)) e w' := by
  obtain ⟨vc', vs', φ', cells', stack', pins', A', he, hA, g1, g2, g3, g4⟩ := h
  subst hA
  refine ⟨he, φ', _, ⟨bp, np, vc', vs', cells', stack', pins', ?_, g2, rfl, hm, ?_⟩, g3, g4⟩
  · split <;> exact g1
  · split <;> exact hlim

theorem at_make (h : HeapAt w p F A φ m) (hst : A.stack.length < 1000000000) (hm : m < 1000000000) (kind n : Nat) (hk : kind ≤ 1000) (hn : n ≤ A.stack.length) :
    Calls Try.prog 16 #[.pointer (some ⟨p, 0, none⟩), .int .i64 kind, .int .i64 n] w (Turned w p F (if A.live + (1 + n) ≤ A.limit then A.make kind n else A) m (.int .i64 (if A.live + (1 + n) ≤ A.limit then 0 else 14))) := by
  obtain ⟨bp, np, vc, vs, cells, stack, pins, h1, h2, rfl, h4, h5⟩ := h
  have hst' : stack.length < 1000000000 := by rw [h2.stack, List.length_map]; exact hst
  have hsz : (⟨kind, false, A.stack.drop (A.stack.length - n), []⟩ : Ob).size = 1 + n := by simp [Ob.size]; omega
  have key : Calls Try.prog 16 #[.pointer (some ⟨p, 0, none⟩), .int .i64 kind, .int .i64 n] w (PutEnd A w p bp np vc vs ⟨kind, false, A.stack.drop (A.stack.length - n), []⟩ n) := by
    by_cases hroom : A.live + (1 + n) ≤ A.limit
    · rcases Nat.eq_zero_or_pos n with h0 | h0
      · subst h0
        have := make_zero h1 h2 h5 hst' (by omega) kind hk (by omega)
        rw [Nat.sub_zero, List.drop_length]
        exact this
      · exact make_pos h1 h2 h5 hst' (by omega) kind n hk hn h0 hroom
    · exact make_full h1 h2 h5 hst' (by omega) kind n hk hn hroom _ hsz
  refine key.mono ?_
  intro e w' he
  have := he.at h4 h5
  rw [hsz] at this
  exact this
end
end Go.Proofs.Ytlbiapgikkjooaa
