/- Texts of the proof, in build order: Val. -/
import Derived.Test.YtcpgbekcbaelpaaGreatDoorF11
import Derived.Test.YtcpgbekcbaelpaaGreatDoorF07
set_option linter.unusedVariables false
set_option linter.unusedSimpArgs false
set_option linter.unusedSectionVars false
/- A value of the language as it lies in memory: a tree. -/
namespace Go.Proofs.YtcpgbekcbaelpaaGreatDoor
open Go.RowKit

inductive VT where
  | node (kind num : Int) (text : ByteArray) (kids : List VT)

namespace VT
def kind : VT → Int | node k _ _ _ => k
def num : VT → Int | node _ n _ _ => n
def text : VT → ByteArray | node _ _ s _ => s
def kids : VT → List VT | node _ _ _ l => l
theorem eta (t : VT) : t = node t.kind t.num t.text t.kids := by cases t; rfl
end VT

def vval (t : VT) (ao : Option Addr) (cap : Nat) : Value := .agg #[.int .i64 t.kind, .int .i64 t.num, .string t.text, .slice ao t.kids.length cap]

mutual
def ValIs (w : World) (P : Nat → Prop) : VT → Value → Prop
  | .node k n s l, v => ∃ ao cap, v = .agg #[.int .i64 k, .int .i64 n, .string s, .slice ao l.length cap] ∧ l.length ≤ cap ∧ cap ≤ maxLen ∧ s.size ≤ maxLen ∧ (Lit.int .i64 k).wf = true ∧ (Lit.int .i64 n).wf = true ∧ (ao = none → cap = 0) ∧ KidsAt w P l ao 0
def KidsAt (w : World) (P : Nat → Prop) : List VT → Option Addr → Nat → Prop
  | [], _, _ => True
  | t :: ts, ao, j => (∃ b off x0 x1 x2 x3, ao = some ⟨b, off, none⟩ ∧ P b ∧ w.cell? ⟨b, off + j * 4, none⟩ = some x0 ∧ w.cell? ⟨b, off + j * 4 + 1, none⟩ = some x1 ∧ w.cell? ⟨b, off + j * 4 + 2, none⟩ = some x2 ∧ w.cell? ⟨b, off + j * 4 + 3, none⟩ = some x3 ∧ ValIs w P t (.agg #[x0, x1, x2, x3])) ∧ KidsAt w P ts ao (j + 1)
end

mutual
theorem ValIs.keep {w w' : World} {P Q : Nat → Prop} (hPQ : ∀ b, P b → Q b) (hc : ∀ p : Addr, P p.block → w'.cell? p = w.cell? p) : ∀ {t : VT} {v : Value}, ValIs w P t v → ValIs w' Q t v
  | .node _ _ _ _, _, h => by
    unfold ValIs at h ⊢
    obtain ⟨ao, cap, h1, h2, h3, h4, h5, h6, h7, h8⟩ := h
    exact ⟨ao, cap, h1, h2, h3, h4, h5, h6, h7, h8.keep hPQ hc⟩
theorem KidsAt.keep {w w' : World} {P Q : Nat → Prop} (hPQ : ∀ b, P b → Q b) (hc : ∀ p : Addr, P p.block → w'.cell? p = w.cell? p) : ∀ {l : List VT} {ao : Option Addr} {j : Nat}, KidsAt w P l ao j → KidsAt w' Q l ao j
  | [], _, _, _ => by unfold KidsAt; trivial
  | _ :: _, _, _, h => by
    unfold KidsAt at h ⊢
    obtain ⟨⟨b, off, x0, x1, x2, x3, h1, h2, h3, h4, h5, h6, h7⟩, h8⟩ := h
    exact ⟨⟨b, off, x0, x1, x2, x3, h1, hPQ b h2, (hc _ h2).trans h3, (hc _ h2).trans h4, (hc _ h2).trans h5, (hc _ h2).trans h6, h7.keep hPQ hc⟩, h8.keep hPQ hc⟩
end
theorem ValIs.below {w w' : World} {P : Nat → Prop} {M : Nat} {t : VT} {v : Value} (h : ValIs w P t v) (hb : Below M w w') (hP : ∀ b, P b → b < M) : ValIs w' P t v := h.keep (fun _ h => h) fun p hp => hb.cell (hP p.block hp)
theorem ValIs.mono {w : World} {P Q : Nat → Prop} {t : VT} {v : Value} (h : ValIs w P t v) (hPQ : ∀ b, P b → Q b) : ValIs w Q t v := h.keep hPQ fun _ _ => rfl
theorem ValIs.drewN {w : World} {P : Nat → Prop} {t : VT} {v : Value} (h : ValIs w P t v) (n : Nat) : ValIs (w.drewN n) P t v := h.keep (fun _ h => h) fun _ _ => by simp
theorem ValIs.chg {w w' : World} {P : Nat → Prop} {F : List Nat} {t : VT} {v : Value} (h : ValIs w P t v) (hc : Chg F w w') (hP : ∀ b, P b → b < w.heap.size ∧ b ∉ F) : ValIs w' P t v :=
  h.keep (fun _ h => h) fun p hp => by
    have := hc.block p.block (hP p.block hp).1 (hP p.block hp).2
    unfold World.cell?; rw [this]

theorem KidsAt.get {w : World} {P : Nat → Prop} : ∀ {l : List VT} {ao : Option Addr} {j i : Nat} {t : VT}, KidsAt w P l ao j → l[i]? = some t → ∃ b off x0 x1 x2 x3, ao = some ⟨b, off, none⟩ ∧ P b ∧ w.cell? ⟨b, off + (j + i) * 4, none⟩ = some x0 ∧ w.cell? ⟨b, off + (j + i) * 4 + 1, none⟩ = some x1 ∧ w.cell? ⟨b, off + (j + i) * 4 + 2, none⟩ = some x2 ∧ w.cell? ⟨b, off + (j + i) * 4 + 3, none⟩ = some x3 ∧ ValIs w P t (.agg #[x0, x1, x2, x3])
  | [], _, _, _, _, _, h => by cases h
  | t :: l, ao, j, 0, u, h, hi => by
    rw [List.getElem?_cons_zero] at hi; cases hi
    unfold KidsAt at h
    exact h.1
  | t :: l, ao, j, i + 1, u, h, hi => by
    rw [List.getElem?_cons_succ] at hi
    unfold KidsAt at h
    have := h.2.get hi
    rw [show j + 1 + i = j + (i + 1) by omega] at this
    exact this
theorem KidsAt.cells {w : World} {P : Nat → Prop} {l : List VT} {b off j i : Nat} {t : VT} (h : KidsAt w P l (some ⟨b, off, none⟩) j) (hi : l[i]? = some t) : P b ∧ ∃ ao cap, w.cell? ⟨b, off + (j + i) * 4, none⟩ = some (.int .i64 t.kind) ∧ w.cell? ⟨b, off + (j + i) * 4 + 1, none⟩ = some (.int .i64 t.num) ∧ w.cell? ⟨b, off + (j + i) * 4 + 2, none⟩ = some (.string t.text) ∧ w.cell? ⟨b, off + (j + i) * 4 + 3, none⟩ = some (.slice ao t.kids.length cap) ∧ ValIs w P t (vval t ao cap) := by
  obtain ⟨b', off', x0, x1, x2, x3, h1, h2, h3, h4, h5, h6, h7⟩ := h.get hi
  cases h1
  have h7' := h7
  rw [t.eta] at h7'
  unfold ValIs at h7'
  obtain ⟨ao, cap, hv, _⟩ := h7'
  have hv := congrArg (fun v => match v with | Value.agg a => a.toList | _ => []) hv
  simp at hv
  obtain ⟨rfl, rfl, rfl, rfl⟩ := hv
  exact ⟨h2, ao, cap, h3, h4, h5, h6, h7⟩
end Go.Proofs.YtcpgbekcbaelpaaGreatDoor
