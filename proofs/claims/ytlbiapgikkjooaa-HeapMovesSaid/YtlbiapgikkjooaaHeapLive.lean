/- How many cells are live: by a list of all that can be come to. No program in sight. -/
import Derived.Test.YtlbiapgikkjooaaHeapOps
namespace Go.Proofs.Ytlbiapgikkjooaa.Hp
set_option linter.unusedSimpArgs false
set_option linter.unusedVariables false
set_option linter.unusedSectionVars false

/-- An empty heap. -/
def AH.empty (n : Nat) : AH := ⟨n, [], [], fun _ => none⟩
theorem reach_empty {n i : Nat} (h : (AH.empty n).Reach i) : False :=
  h (fun _ => False) (fun r j hr _ => by rcases hr with hr | ⟨k, hk⟩ <;> simp [AH.empty] at *) (fun _ _ _ h _ _ => h)
theorem rep_empty (n : Nat) (φ : Nat → Nat) : Rep (AH.empty n) φ [] [] (fun _ => none) := by
  have hr : ∀ i, ¬ (AH.empty n).Reach i := fun i h => reach_empty h
  have hro : ∀ r, ¬ (AH.empty n).Root r := fun r h => by rcases h with h | ⟨k, h⟩ <;> simp [AH.empty] at h
  exact ⟨⟨fun i _ h => absurd h (hr i), fun i h => absurd h (hr i), fun r h => absurd h (hro r), fun r h => absurd h (hro r), fun i _ h => absurd h (hr i), fun i _ h => absurd h (hr i)⟩,
    fun i _ h => absurd h (hr i), fun i _ _ _ h => absurd h (hr i), rfl, fun _ => rfl, Nat.zero_le _⟩

/-- A list without twins of objects that can be come to, and in which all that they and the roots name are: these are all. -/
theorem live_of {A : AH} (hwf : A.Wf) (l : List Nat) (hn : l.Nodup) (hr : ∀ i ∈ l, A.Reach i) (h1 : ∀ r j, A.Root r → Names r j → j ∈ l) (h2 : ∀ i r j, i ∈ l → A.Edge i r → Names r j → j ∈ l) : A.live = total A l :=
  live_eq A l hn hwf fun i => ⟨hr i, fun h => h (· ∈ l) h1 h2⟩

/-- Nothing can be come to. -/
theorem live_none {A : AH} (hwf : A.Wf) (h1 : ∀ r, A.Root r → r.obj = false) : A.live = 0 :=
  (live_of hwf [] List.nodup_nil (by simp) (fun r j hr hn => by have := h1 r hr; rw [hn.1] at this; cases this) (by simp)).trans rfl
end Go.Proofs.Ytlbiapgikkjooaa.Hp
