/- What cleaning a heap does, in plain words: objects are copied one behind the other, as they are come to; no program in sight. -/
import Derived.Test.YtlbiapgikkjooaaHeapPlain
namespace Go.Proofs.Ytlbiapgikkjooaa.Hp
set_option linter.unusedSimpArgs false
set_option linter.unusedVariables false
set_option linter.unusedSectionVars false

def sizeAt (A : AH) (i : Nat) : Nat := ((A.objs[i]?).map Ob.size).getD 0
/-- Where object i stands when those of the list are laid one behind the other. -/
def offs (A : AH) : List Nat → Nat → Nat
  | [], _ => 0
  | j :: r, i => if i = j then 0 else sizeAt A j + offs A r i
def total (A : AH) (l : List Nat) : Nat := (l.map (sizeAt A)).sum

theorem total_append (A : AH) (l r : List Nat) : total A (l ++ r) = total A l + total A r := by simp [total]
theorem total_one (A : AH) (i : Nat) : total A [i] = sizeAt A i := by simp [total]
theorem total_cons (A : AH) (i : Nat) (l : List Nat) : total A (i :: l) = sizeAt A i + total A l := by simp [total]

theorem offs_append (A : AH) (l r : List Nat) (i : Nat) (h : i ∈ l) : offs A (l ++ r) i = offs A l i := by
  induction l with
  | nil => cases h
  | cons j l ih =>
    simp only [List.cons_append, offs]
    by_cases e : i = j
    · rw [if_pos e, if_pos e]
    · rw [if_neg e, if_neg e, ih (by rcases List.mem_cons.1 h with h | h; exact absurd h e; exact h)]
theorem offs_new (A : AH) (l r : List Nat) (i : Nat) (h : i ∉ l) : offs A (l ++ i :: r) i = total A l := by
  induction l with
  | nil => simp [offs, total]
  | cons j l ih =>
    simp only [List.cons_append, offs, total_cons]
    rw [if_neg (fun e => h (by rw [e]; exact List.mem_cons_self)), ih (fun e => h (List.mem_cons_of_mem _ e))]
theorem offs_le (A : AH) (l : List Nat) (i : Nat) (h : i ∈ l) : offs A l i + sizeAt A i ≤ total A l := by
  induction l with
  | nil => cases h
  | cons j l ih =>
    simp only [offs, total_cons]
    by_cases e : i = j
    · subst e; rw [if_pos rfl]; omega
    · rw [if_neg e]; have := ih (by rcases List.mem_cons.1 h with h | h; exact absurd h e; exact h); omega
theorem offs_apart (A : AH) (l : List Nat) (i j : Nat) (hi : i ∈ l) (hj : j ∈ l) (hne : i ≠ j) : offs A l i + sizeAt A i ≤ offs A l j ∨ offs A l j + sizeAt A j ≤ offs A l i := by
  induction l with
  | nil => cases hi
  | cons k l ih =>
    simp only [offs]
    by_cases e : i = k
    · subst e
      rw [if_pos rfl, if_neg (fun e => hne e.symm)]
      omega
    · by_cases e2 : j = k
      · subst e2
        rw [if_pos rfl, if_neg e]
        omega
      · rw [if_neg e, if_neg e2]
        have := ih (by rcases List.mem_cons.1 hi with h | h; exact absurd h e; exact h) (by rcases List.mem_cons.1 hj with h | h; exact absurd h e2; exact h)
        omega

/-- The k-th of the list stands behind those ahead of it. -/
theorem offs_at (A : AH) (l : List Nat) (k : Nat) (hn : l.Nodup) (h : k < l.length) : offs A l l[k] = total A (l.take k) := by
  have e : l = l.take k ++ l[k] :: l.drop (k + 1) := by
    rw [← List.drop_eq_getElem_cons h, List.take_append_drop]
  have hni : l[k] ∉ l.take k := by
    intro hm
    rw [e] at hn
    have := (List.nodup_append.1 hn).2.2 l[k] hm l[k] List.mem_cons_self
    exact this rfl
  have := offs_new A (l.take k) (l.drop (k + 1)) l[k] hni
  rw [← e] at this
  exact this

theorem take_succ_total (A : AH) (l : List Nat) (k : Nat) (h : k < l.length) : total A (l.take (k + 1)) = total A (l.take k) + sizeAt A l[k] := by
  rw [List.take_succ_eq_append_getElem h, total_append, total_one]

/-- Numbers below n, none twice, are no more than n. -/
theorem length_le_of_lt : ∀ (n : Nat) (l : List Nat), l.Nodup → (∀ x ∈ l, x < n) → l.length ≤ n
  | 0, [], _, _ => Nat.le_refl _
  | 0, x :: l, _, h => absurd (h x List.mem_cons_self) (by omega)
  | n + 1, l, hn, h => by
    have h1 := length_le_of_lt n (l.filter (· ≠ n)) (hn.filter _) (fun x hx => by
      have h2 := List.mem_filter.1 hx
      have := h x h2.1
      have h3 : x ≠ n := by simpa using h2.2
      omega)
    have h2 : l.length ≤ (l.filter (· ≠ n)).length + 1 := by
      clear h h1
      induction l with
      | nil => simp
      | cons x l ih =>
        rw [List.nodup_cons] at hn
        have ih := ih hn.2
        by_cases e : x = n
        · subst e
          have : l.filter (· ≠ x) = l := List.filter_eq_self.2 (fun y hy => by simp; intro e; exact hn.1 (e ▸ hy))
          rw [List.filter_cons_of_neg (by simp), this]; simp
        · simp [List.filter_cons, e] at ih ⊢; omega
    omega

theorem mem_range' {a n x : Nat} : x ∈ List.range' a n ↔ a ≤ x ∧ x < a + n := by rw [List.mem_range'_1]

section
variable {A : AH} {φ : Nat → Nat} {cells stack : List Int} {pins : Int → Option Int}

theorem Rep.extent (h : Rep A φ cells stack pins) (i : Nat) (hi : A.Reach i) : φ i + sizeAt A i ≤ cells.length := by
  have hl := h.wf.there i hi
  have e : A.objs[i]? = some A.objs[i] := List.getElem?_eq_getElem hl
  have := (h.obj i _ hi e).2
  simpa [sizeAt, e] using this
theorem Rep.disjoint (h : Rep A φ cells stack pins) (i j : Nat) (hi : A.Reach i) (hj : A.Reach j) (hne : i ≠ j) : φ i + sizeAt A i ≤ φ j ∨ φ j + sizeAt A j ≤ φ i := by
  have l1 := h.wf.there i hi
  have l2 := h.wf.there j hj
  have e1 : A.objs[i]? = some A.objs[i] := List.getElem?_eq_getElem l1
  have e2 : A.objs[j]? = some A.objs[j] := List.getElem?_eq_getElem l2
  have := h.apart i j _ _ hi hj hne e1 e2
  simpa [sizeAt, e1, e2] using this
theorem size_pos (A : AH) (i : Nat) (h : i < A.objs.length) : 1 ≤ sizeAt A i := by
  have e : A.objs[i]? = some A.objs[i] := List.getElem?_eq_getElem h
  simp [sizeAt, e, Ob.size]
theorem Rep.inj (h : Rep A φ cells stack pins) {i j : Nat} (hi : A.Reach i) (hj : A.Reach j) (e : φ i = φ j) : i = j := by
  by_cases hne : i = j
  · exact hne
  · have h1 := h.disjoint i j hi hj hne
    have h2 := size_pos A i (h.wf.there i hi)
    have h3 := size_pos A j (h.wf.there j hj)
    omega

/-- Objects that can be come to, none twice, take no more than the cells that there are. -/
theorem Rep.total_le (h : Rep A φ cells stack pins) (l : List Nat) (hn : l.Nodup) (hr : ∀ i ∈ l, A.Reach i) : total A l ≤ cells.length := by
  have hlen : (l.flatMap fun i => List.range' (φ i) (sizeAt A i)).length = total A l := by
    simp [List.length_flatMap, total]
  rw [← hlen]
  refine length_le_of_lt _ _ ?_ ?_
  · clear hlen
    induction l with
    | nil => simp
    | cons i l ih =>
      rw [List.nodup_cons] at hn
      rw [List.flatMap_cons, List.nodup_append]
      refine ⟨List.nodup_range', ih hn.2 (fun j hj => hr j (List.mem_cons_of_mem _ hj)), ?_⟩
      intro x hx y hy e
      subst e
      obtain ⟨j, hj, hy⟩ := List.mem_flatMap.1 hy
      have h1 := mem_range'.1 hx
      have h2 := mem_range'.1 hy
      have h3 := h.disjoint i j (hr i List.mem_cons_self) (hr j (List.mem_cons_of_mem _ hj)) (fun e => hn.1 (e ▸ hj))
      omega
  · intro x hx
    obtain ⟨i, hi, hx⟩ := List.mem_flatMap.1 hx
    have h1 := mem_range'.1 hx
    have h2 := h.extent i (hr i hi)
    omega
end

theorem sum_ite (n : Nat) (P : Nat → Prop) [DecidablePred P] (f : Nat → Nat) : (((List.range n).filter fun i => decide (P i)).map f).sum = ((List.range n).map fun i => if P i then f i else 0).sum := by
  generalize List.range n = l
  induction l with
  | nil => rfl
  | cons i l ih =>
    by_cases h : P i
    · simp [List.filter_cons, h, ih]
    · simp [List.filter_cons, h, ih]

open Classical in
/-- A list of all that can be come to, none twice, tells what is needed. -/
theorem live_eq (A : AH) (l : List Nat) (hn : l.Nodup) (hwf : A.Wf) (hl : ∀ i, i ∈ l ↔ A.Reach i) : A.live = total A l := by
  have hp : l.Perm ((List.range A.objs.length).filter fun i => decide (A.Reach i)) := by
    refine (List.perm_ext_iff_of_nodup hn (List.nodup_range.filter _)).2 fun i => ?_
    rw [List.mem_filter, List.mem_range, decide_eq_true_eq, hl]
    exact ⟨fun h => ⟨hwf.there i h, h⟩, fun h => h.2⟩
  have h2 := (hp.map (sizeAt A)).sum_nat
  unfold total
  rw [h2, sum_ite]
  rfl

open Classical in
theorem exists_order (A : AH) (hwf : A.Wf) : ∃ l : List Nat, l.Nodup ∧ ∀ i, i ∈ l ↔ A.Reach i :=
  ⟨(List.range A.objs.length).filter fun i => decide (A.Reach i), List.nodup_range.filter _, fun i => by
    rw [List.mem_filter, List.mem_range, decide_eq_true_eq]
    exact ⟨fun h => h.2, fun h => ⟨hwf.there i h, h⟩⟩⟩

theorem Rep.live_le {A : AH} {φ : Nat → Nat} {cells stack : List Int} {pins : Int → Option Int} (h : Rep A φ cells stack pins) : A.live ≤ cells.length := by
  obtain ⟨l, hn, hl⟩ := exists_order A h.wf
  rw [live_eq A l hn h.wf hl]
  exact h.total_le l hn fun i hi => (hl i).1 hi
end Go.Proofs.Ytlbiapgikkjooaa.Hp
