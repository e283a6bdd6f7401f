/- A region that draws its order, whose first operation moves a value and may come late: it is taken first; then the region's law with a tail serves. Over any program. -/
import Derived.StillTail
import Derived.StillTailTactics
import Derived.BigRegion
import Derived.Deep.Draws
namespace Go.Proofs.Ytlbiapgikkjooaa
open Go
set_option linter.unusedSimpArgs false
set_option linter.unusedVariables false
set_option linter.unusedSectionVars false

/-- The n-th operation waits for the first one, too. -/
def later (ops : Array Oper) (n : Nat) : Array Oper := ops.modify n fun o => { o with after := o.after.push ⟨0, .phase⟩ }

section
variable {P : Program} {ops : Array Oper} {w : World} {n : Nat}
theorem later_get (i : Nat) : (later ops n)[i]? = (ops[i]?).map fun o => if n = i then { o with after := o.after.push ⟨0, .phase⟩ } else o := by
  unfold later
  rw [Array.getElem?_modify]
  by_cases e : n = i
  · subst e; simp
  · simp [e]
theorem later_size : (later ops n).size = ops.size := by simp [later]
theorem later_yielded (t : Array Value) : yielded (later ops n) t = yielded ops t := by
  funext j
  unfold yielded
  have : ((later ops n)[j]?).bind (·.dst) = (ops[j]?).bind (·.dst) := by
    rw [later_get]
    cases ops[j]? with
    | none => rfl
    | some o => simp only [Option.map_some, Option.bind_some]; split <;> rfl
  rw [this]
theorem later_ready (hn : (listed : Array Bool) → Bool) (listed : Array Bool) (h : listed.getD 0 false = true) : Region.ready .any (later ops n) listed = Region.ready .any ops listed := by
  unfold Region.ready
  rw [later_size]
  apply List.filter_congr
  intro i _
  rw [later_get]
  congr 1
  cases ops[i]? with
  | none => rfl
  | some o =>
    simp only [Option.map_some, Option.getD_some]
    by_cases e : n = i
    · rw [if_pos e]
      simp only [Array.all_push, h, Bool.or_true, Bool.and_true]
    · rw [if_neg e]
theorem later_stOp {i : Nat} {K : Act → Prop} {a : Act} (h : stOp P (later ops n) w i K a) : stOp P ops w i K a := by
  unfold stOp at *
  rw [later_get] at h
  cases ho : ops[i]? with
  | none => rw [ho] at h; exact h
  | some o =>
    rw [ho] at h
    simp only [Option.map_some, later_yielded] at h ⊢
    by_cases e : n = i
    · rw [if_pos e] at h; exact h
    · rw [if_neg e] at h; exact h
theorem later_wpAnyL {L : Array Bool → Act → Prop} : ∀ (f : Nat) (listed : Array Bool) (a : Act), listed.getD 0 false = true → ∀ m, wpAnyL P .any (later ops n) w m L f listed a → wpAnyL P .any ops w m L f listed a
  | 0, _, _, _, _, h => h
  | f + 1, listed, a, hl, m, h => by
    unfold wpAnyL at *
    rw [later_ready (fun _ => true) listed hl] at h
    refine ⟨h.1, fun i hi => ⟨(h.2 i hi).1, ?_⟩⟩
    exact stOp_mono (fun a' h' => later_wpAnyL f _ a' (getD_set_true hl) m h') (later_stOp (h.2 i hi).2)
theorem later_seqB : ∀ (g k : Nat) (listed : Array Bool), listed.getD 0 false = true → Region.seqB .any (later ops n) g k listed = true → Region.seqB .any ops g k listed = true
  | 0, _, listed, hl, h => by unfold Region.seqB at *; rwa [later_ready (fun _ => true) listed hl] at h
  | g + 1, k, listed, hl, h => by
    unfold Region.seqB at *
    rw [later_ready (fun _ => true) listed hl] at h
    simp only [Bool.and_eq_true] at h ⊢
    exact ⟨h.1, later_seqB g (k + 1) _ (getD_set_true hl) h.2⟩
theorem later_wpStill {Q : Act → Prop} : ∀ (l : List Oper) (a : Act), wpStill P ops w Q l a → wpStill P (later ops n) w Q l a
  | [], _, h => h
  | o :: l, a, h => by
    unfold wpStill at *
    rw [later_yielded]
    split
    · rename_i hw
      rw [if_pos hw] at h
      exact Oper.still_mono (fun a' h' => later_wpStill l a' h') h
    · rename_i hw
      rw [if_neg hw] at h
      exact later_wpStill l _ h

/-- The checks. -/
def tail1B (ops : Array Oper) (n : Nat) : Bool :=
  Region.noSelect ops && Region.noSelect (later ops n) && (Region.ready .any (later ops n) (Array.replicate ops.size false)).contains 0 && decide (0 < n) && decide (n < ops.size) && (Region.ready .any ops (Array.replicate ops.size false)).contains 0 && Region.free .any ops (Array.replicate ops.size false) 0 &&
  Region.sinkB .any (later ops n) n && Region.chainB .any (later ops n) n && Region.lexHead .any (later ops n) (ops.size - n) (n - 1) 1 ((Array.replicate ops.size false).setIfInBounds 0 true)

theorem wpAnyL_L {L L' : Array Bool → Act → Prop} (m : Nat) (h : ∀ l a, l.getD 0 false = true → L l a → L' l a) : ∀ (f : Nat) (listed : Array Bool) (a : Act), listed.getD 0 false = true → wpAnyL P .any ops w m L f listed a → wpAnyL P .any ops w m L' f listed a
  | 0, _, _, hl, hh => h _ _ hl hh
  | f + 1, listed, a, hl, hh => ⟨hh.1, fun i hi => ⟨(hh.2 i hi).1, stOp_mono (fun a' h' => wpAnyL_L m h f _ a' (getD_set_true hl) h') (hh.2 i hi).2⟩⟩

theorem region_tail1 {id : Nat} {Q : Exit → Act → World → Prop} {a : Act} {l : List Oper} (n : Nat) (hm : P.follows .mixedOrders = true) (x : Operand) (o0 : Oper) (h0 : l[0]? = some o0) (hop : o0.op = .move x) (hg : o0.guard = none) (hB : tail1B l.toArray n = true)
    (hQ : ∀ c b w, Q (.panic c) (b.put o0.dst (a.eval x)) w → Q (.panic c) b w)
    (h : wpStill P l.toArray w.drew (fun a' => wpList P l.toArray Q (l.drop n) a' w.drew) ((l.drop 1).take (n - 1)) (a.put o0.dst (a.eval x))) : (Code.region id l.toArray true).wp P Q a w := by
  simp only [tail1B, Bool.and_eq_true, decide_eq_true_eq] at hB
  obtain ⟨⟨⟨⟨⟨⟨⟨⟨⟨hsel, hsel'⟩, hr0'⟩, hpos⟩, hn⟩, hr0⟩, hf0⟩, hs⟩, hc⟩, hlex⟩ := hB
  have hn' : n < l.length := by simpa using hn
  have hl0 : ((Array.replicate l.toArray.size false).setIfInBounds 0 true).getD 0 false = true := by
    have : 0 < l.length := by omega
    simp [this]
  have inv0 : HeadInv .any (later l.toArray n) n (Array.replicate l.toArray.size false) :=
    ⟨by simp [later_size], fun j oj _ hl => (by rw [getD_replicate_false] at hl; cases hl), fun t _ ht => getD_in (by simpa [later_size] using ht) (getD_replicate_false _ _)⟩
  have inv1 := inv0.set (i := 0) (by simpa using hr0') hpos
  have htl : ((l.drop 1).take (n - 1)).length = n - 1 := by simp; omega
  have H := wpAnyL_lex (md := .any) (ops := later l.toArray n) (P := P) (w := w.drew) (g := l.toArray.size - n) (Lq := fun a' => wpList P l.toArray Q (l.drop n) a' w.drew) hsel' hs hc (by rw [later_size]; exact hn) ((l.drop 1).take (n - 1)) 1 _ (a.put o0.dst (a.eval x)) (fun j hj => by
    have hj' : j < n - 1 := by rw [htl] at hj; exact hj
    rw [later_get]
    have hne : n ≠ 1 + j := by omega
    simp only [hne, if_false, Option.map_id']
    rw [List.getElem?_take_of_lt hj', List.getElem?_drop]; simp) (by rw [htl]; omega) inv1 (by rw [htl]; exact hlex) (later_wpStill _ _ h)
  rw [htl] at H
  have H2 := wpAnyL_L (L' := fun listed' a' => listed'.getD 0 false = true ∧ Region.seqB .any l.toArray (l.toArray.size - n) n listed' = true ∧ wpList P l.toArray Q (l.drop n) a' w.drew) n (fun l' a' h1 h2 => ⟨h1, later_seqB _ _ _ h1 h2.1, h2.2⟩) _ _ _ hl0 (later_wpAnyL _ _ _ hl0 n H)
  refine wp_region_any hm ?_
  have hdl : (l.drop n).length = l.toArray.size - n := by simp
  have H3 := wpAny_of_head (Q' := Q) (g := l.toArray.size - n) (fun listed a' hL => by
    have := wpAny_of_seq (md := .any) (Q' := Q) (l.drop n) n listed a' w.drew (fun j => by simp [List.getElem?_drop]) (by rw [hdl]; exact hL.2.1) hL.2.2
    rwa [hdl] at this) _ _ _ H2
  have hsz : l.toArray.size = (n - 1 + (l.toArray.size - n)) + 1 := by omega
  have hy : Yields P l.toArray o0 (a.eval x) a := .inl ⟨by simp [Region.wanted, hg], fun w => by unfold execOp; rw [hop]; rfl⟩
  have H4 := wpAny_take (i := 0) (oi := o0) (by simpa using h0) hsel hf0 hr0 hQ hy H3
  rw [← hsz] at H4
  exact H4
end
end Go.Proofs.Ytlbiapgikkjooaa
