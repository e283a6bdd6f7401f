/- The reference's search for what can be come to, in plain words. -/
import Derived.Test.YtlbiapgikkjooaaMineR
namespace Go.Proofs.Ytlbiapgikkjooaa.Hp
set_option linter.unusedSimpArgs false
set_option linter.unusedVariables false
set_option linter.unusedSectionVars false

/-- Objects that were taken, objects that wait, and the marks. -/
structure Bfs (A : AH) (B : List Bool) (done ws : List Nat) : Prop where
  nd : (done ++ ws).Nodup
  len : B.length = A.objs.length
  mem : ∀ i, B[i]? = some true ↔ i ∈ done ++ ws
  reach : ∀ i, i ∈ done ++ ws → A.Reach i
section
variable {A : AH} {B : List Bool} {done ws : List Nat}
theorem Bfs.start (A : AH) : Bfs A (List.replicate A.objs.length false) [] [] :=
  ⟨by simp, by simp, fun i => by simp [List.getElem?_replicate], fun i hi => by simp at hi⟩
theorem Bfs.mark (h : Bfs A B done ws) {i : Nat} (hi : B[i]? = some false) (hr : A.Reach i) : Bfs A (B.set i true) done (ws ++ [i]) := by
  have hn : i ∉ done ++ ws := fun hm => by rw [(h.mem i).2 hm] at hi; cases hi
  have hl := (List.getElem?_eq_some_iff.1 hi).1
  refine ⟨?_, by rw [List.length_set]; exact h.len, fun j => ?_, fun j hj => ?_⟩
  · rw [← List.append_assoc, List.nodup_append]
    refine ⟨h.nd, by simp, fun a ha b hb => ?_⟩
    rw [List.mem_singleton] at hb
    subst hb
    rintro rfl
    exact hn ha
  · rw [← List.append_assoc, List.mem_append, List.mem_singleton, ← h.mem j]
    by_cases e : i = j
    · subst e
      rw [List.getElem?_set_self hl]
      simp
    · rw [List.getElem?_set_ne e]
      constructor
      · exact fun h => .inl h
      · rintro (h | h)
        · exact h
        · exact absurd h.symm e
  · rw [← List.append_assoc, List.mem_append, List.mem_singleton] at hj
    rcases hj with hj | rfl
    · exact h.reach j hj
    · exact hr
theorem Bfs.step {i : Nat} (h : Bfs A B done (i :: ws)) : Bfs A B (done ++ [i]) ws := by
  have e : done ++ [i] ++ ws = done ++ i :: ws := by simp
  exact ⟨by rw [e]; exact h.nd, h.len, fun j => by rw [e]; exact h.mem j, fun j hj => h.reach j (by rw [← e]; exact hj)⟩
theorem Bfs.lt (h : Bfs A B done ws) {i : Nat} (hi : i ∈ done ++ ws) : i < A.objs.length := by
  have := (h.mem i).2 hi
  rw [← h.len]
  exact (List.getElem?_eq_some_iff.1 this).1
theorem Bfs.count (h : Bfs A B done ws) : done.length + ws.length ≤ A.objs.length := by
  have := length_le_of_lt A.objs.length (done ++ ws) h.nd (fun x hx => h.lt hx)
  rwa [List.length_append] at this
theorem Bfs.live (h : Bfs A B done []) (hwf : A.Wf) (hroot : ∀ r, A.Root r → r.obj = true → r.ix ∈ done) (hedge : ∀ i r, i ∈ done → A.Edge i r → r.obj = true → r.ix ∈ done) : A.live = total A done := by
  have hnd := h.nd
  rw [List.append_nil] at hnd
  refine live_eq A done hnd hwf fun i => ⟨fun hi => h.reach i (by rw [List.append_nil]; exact hi), fun hi => ?_⟩
  refine hi (· ∈ done) (fun r j hr hn => ?_) (fun i r j hi he hn => ?_)
  · have := hroot r hr hn.1
    rwa [show r.ix = j from by unfold Ref.ix; rw [hn.2]; rfl] at this
  · have := hedge i r hi he hn.1
    rwa [show r.ix = j from by unfold Ref.ix; rw [hn.2]; rfl] at this
end
end Go.Proofs.Ytlbiapgikkjooaa.Hp
