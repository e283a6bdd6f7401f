/- Texts of the proof, in build order: GrPlain, GrPlain2. -/
import Derived.Lib.Bytealg
/- Layer 8 in plain words: roots by their names. No program in sight. -/
namespace Go.Proofs.YtenikoecnfbfoaaGreatDoor
namespace Gr
set_option linter.unusedVariables false
set_option linter.unusedSimpArgs false

/-- A root: a name, a type's text, a number. -/
structure RT where
  name : List UInt8
  typ : List UInt8
  id : Int
def RT.ok (r : RT) : Bool := !r.name.isEmpty && decide (r.name.length ≤ 40) && decide (r.typ.length ≤ 1000) && decide (1 ≤ r.id) && decide (r.id ≤ 1099511627776)
open Lib (compareBytes)
def ltN (a b : List UInt8) : Bool := decide (compareBytes a b < 0)

theorem cb_self : ∀ a : List UInt8, compareBytes a a = 0
  | [] => by unfold compareBytes; rfl
  | x :: a => by
    unfold compareBytes
    rw [if_neg (UInt8.lt_irrefl x), if_neg (UInt8.lt_irrefl x), cb_self a]
theorem cb_range : ∀ a b : List UInt8, compareBytes a b = -1 ∨ compareBytes a b = 0 ∨ compareBytes a b = 1
  | [], [] => by unfold compareBytes; simp
  | [], _ :: _ => by unfold compareBytes; simp
  | _ :: _, [] => by unfold compareBytes; simp
  | x :: a, y :: b => by
    unfold compareBytes
    split
    · simp
    · split
      · simp
      · exact cb_range a b
theorem cb_eq : ∀ {a b : List UInt8}, compareBytes a b = 0 → a = b
  | [], [], _ => rfl
  | [], _ :: _, h => by unfold compareBytes at h; simp at h
  | _ :: _, [], h => by unfold compareBytes at h; simp at h
  | x :: a, y :: b, h => by
    unfold compareBytes at h
    split at h
    · simp at h
    · rename_i h1
      split at h
      · simp at h
      · rename_i h2
        have : x = y := UInt8.le_antisymm (UInt8.not_lt.1 h2) (UInt8.not_lt.1 h1)
        rw [this, cb_eq h]
theorem cb_swap : ∀ a b : List UInt8, compareBytes b a = - compareBytes a b
  | [], [] => by unfold compareBytes; rfl
  | [], _ :: _ => by unfold compareBytes; rfl
  | _ :: _, [] => by unfold compareBytes; rfl
  | x :: a, y :: b => by
    unfold compareBytes
    by_cases h1 : x < y
    · have h2 : ¬ y < x := fun h => UInt8.lt_irrefl x (UInt8.lt_trans h1 h)
      simp [h1, h2]
    · by_cases h2 : y < x
      · simp [h1, h2]
      · simp [h1, h2, cb_swap a b]
theorem cb_trans : ∀ {a b c : List UInt8}, compareBytes a b < 0 → compareBytes b c < 0 → compareBytes a c < 0
  | [], [], _, h, _ => by unfold compareBytes at h; simp at h
  | [], _ :: _, [], _, h => by unfold compareBytes at h; simp at h
  | [], _ :: _, _ :: _, _, _ => by unfold compareBytes; decide
  | _ :: _, [], _, h, _ => by unfold compareBytes at h; simp at h
  | _ :: _, _ :: _, [], _, h => by unfold compareBytes at h; simp at h
  | x :: a, y :: b, z :: c, h1, h2 => by
    unfold compareBytes at h1 h2 ⊢
    by_cases hxy : x < y
    · by_cases hyz : y < z
      · rw [if_pos (UInt8.lt_trans hxy hyz)]; decide
      · rw [if_neg hyz] at h2
        by_cases hzy : z < y
        · rw [if_pos hzy] at h2; simp at h2
        · have : y = z := UInt8.le_antisymm (UInt8.not_lt.1 hzy) (UInt8.not_lt.1 hyz)
          subst this
          rw [if_pos hxy]; decide
    · rw [if_neg hxy] at h1
      by_cases hyx : y < x
      · rw [if_pos hyx] at h1; simp at h1
      · rw [if_neg hyx] at h1
        have : x = y := UInt8.le_antisymm (UInt8.not_lt.1 hyx) (UInt8.not_lt.1 hxy)
        subst this
        by_cases hyz : x < z
        · rw [if_pos hyz]; decide
        · rw [if_neg hyz] at h2 ⊢
          by_cases hzy : z < x
          · rw [if_pos hzy] at h2; simp at h2
          · rw [if_neg hzy] at h2 ⊢
            exact cb_trans h1 h2
theorem ltN_irrefl (a : List UInt8) : ltN a a = false := by unfold ltN; rw [cb_self]; rfl
theorem ltN_trans {a b c : List UInt8} (h1 : ltN a b = true) (h2 : ltN b c = true) : ltN a c = true := by
  unfold ltN at *
  exact decide_eq_true (cb_trans (of_decide_eq_true h1) (of_decide_eq_true h2))
theorem ltN_total {a b : List UInt8} (h1 : ltN a b = false) (h2 : ltN b a = false) : a = b := by
  unfold ltN at *
  have h1 := of_decide_eq_false h1
  have h2 := of_decide_eq_false h2
  rw [cb_swap a b] at h2
  exact cb_eq (by omega)
theorem ltN_asymm {a b : List UInt8} (h1 : ltN a b = true) : ltN b a = false := by
  unfold ltN at *
  have h1 := of_decide_eq_true h1
  rw [cb_swap a b]
  exact decide_eq_false (by omega)
/-- Not less, and not less: 'not less' goes on. -/
theorem ltN_neg {a b c : List UInt8} (h1 : ltN b a = false) (h2 : ltN c b = false) : ltN c a = false := by
  cases h : ltN c a with
  | false => rfl
  | true =>
    cases h3 : ltN a b with
    | true => have := ltN_trans h h3; rw [this] at h2; cases h2
    | false => have := ltN_total h3 h1; subst this; rw [h] at h2; cases h2

/-- Where a root goes among those that are sorted. -/
def insR (r : RT) : List RT → List RT
  | [] => [r]
  | x :: xs => if ltN x.name r.name then x :: insR r xs else r :: x :: xs
/-- The document's sorted. -/
def sortO : List RT → List RT → Option (List RT)
  | [], out => some out
  | r :: l, out => if !r.ok then none else if out.any (fun x => x.name == r.name) then none else sortO l (insR r out)
/-- Names that rise. -/
def Rise (l : List RT) : Prop := l.Pairwise fun a b => ltN a.name b.name = true
theorem insR_mem {r x : RT} : ∀ {l : List RT}, x ∈ insR r l ↔ x = r ∨ x ∈ l
  | [] => by simp [insR]
  | y :: l => by
    unfold insR
    split
    · rw [List.mem_cons, insR_mem, List.mem_cons]
      constructor
      · rintro (h | h | h)
        · exact .inr (.inl h)
        · exact .inl h
        · exact .inr (.inr h)
      · rintro (h | h | h)
        · exact .inr (.inl h)
        · exact .inl h
        · exact .inr (.inr h)
    · simp
theorem insR_perm (r : RT) : ∀ l : List RT, (insR r l).Perm (r :: l)
  | [] => .refl _
  | x :: l => by
    unfold insR
    split
    · exact ((insR_perm r l).cons x).trans (.swap _ _ _)
    · exact .refl _
theorem insR_rise {r : RT} : ∀ {l : List RT}, Rise l → (∀ x ∈ l, x.name ≠ r.name) → Rise (insR r l)
  | [], _, _ => by simp [insR, Rise]
  | x :: l, h, hn => by
    unfold insR
    have hc := List.pairwise_cons.1 h
    have hx := hn x (List.mem_cons_self ..)
    have hl : ∀ y ∈ l, y.name ≠ r.name := fun y hy => hn y (List.mem_cons_of_mem _ hy)
    split
    · rename_i hlt
      refine List.pairwise_cons.2 ⟨fun y hy => ?_, insR_rise hc.2 hl⟩
      rcases insR_mem.1 hy with rfl | hy
      · exact hlt
      · exact hc.1 y hy
    · rename_i hlt
      have hlt : ltN x.name r.name = false := by simpa using hlt
      have hrx : ltN r.name x.name = true := by
        cases hh : ltN r.name x.name with
        | true => rfl
        | false => exact absurd (ltN_total hlt hh) hx
      refine List.pairwise_cons.2 ⟨fun y hy => ?_, h⟩
      rcases List.mem_cons.1 hy with rfl | hy
      · exact hrx
      · exact ltN_trans hrx (hc.1 y hy)
theorem rise_ne {l : List RT} (h : Rise l) : (l.map RT.name).Nodup := by
  unfold List.Nodup
  rw [List.pairwise_map]
  exact h.imp fun {a b} hab hn => by rw [hn, ltN_irrefl] at hab; cases hab
/-- What the document's sorted gives. -/
theorem sortO_some : ∀ {l out s : List RT}, Rise out → sortO l out = some s → Rise s ∧ s.Perm (l ++ out) ∧ l.all RT.ok = true
  | [], out, s, h, e => by
    unfold sortO at e
    cases e
    exact ⟨h, .refl _, rfl⟩
  | r :: l, out, s, h, e => by
    unfold sortO at e
    split at e
    · cases e
    · rename_i hok
      split at e
      · cases e
      · rename_i hany
        have hne : ∀ x ∈ out, x.name ≠ r.name := fun x hx hn => hany (List.any_eq_true.2 ⟨x, hx, by simpa using hn⟩)
        obtain ⟨h1, h2, h3⟩ := sortO_some (insR_rise h hne) e
        refine ⟨h1, h2.trans ?_, ?_⟩
        · exact ((List.Perm.refl l).append (insR_perm r out)).trans List.perm_middle
        · rw [List.all_cons, h3]; simpa using hok
theorem sortO_none : ∀ {l out : List RT}, Rise out → sortO l out = none → l.all RT.ok = false ∨ ¬ ((l ++ out).map RT.name).Nodup
  | [], out, h, e => by unfold sortO at e; cases e
  | r :: l, out, h, e => by
    unfold sortO at e
    split at e
    · rename_i hok
      left
      rw [List.all_cons]
      simp at hok
      rw [hok]; rfl
    · split at e
      · rename_i hany
        right
        intro hn
        obtain ⟨x, hx, hxn⟩ := List.any_eq_true.1 hany
        rw [List.cons_append, List.map_cons, List.nodup_cons] at hn
        refine hn.1 ?_
        have : x.name = r.name := by simpa using hxn
        rw [← this]
        exact List.mem_map.2 ⟨x, List.mem_append_right _ hx, rfl⟩
      · rename_i hany
        have hne : ∀ x ∈ out, x.name ≠ r.name := fun x hx hn => hany (List.any_eq_true.2 ⟨x, hx, by simpa using hn⟩)
        rcases sortO_none (insR_rise h hne) e with h1 | h1
        · left; rw [List.all_cons, h1, Bool.and_false]
        · right
          intro hn
          refine h1 ?_
          have hp : (l ++ insR r out).Perm ((r :: l) ++ out) := ((List.Perm.refl l).append (insR_perm r out)).trans List.perm_middle
          exact (hp.map RT.name).nodup_iff.2 hn
/-- Sorted, one name may stand twice. -/
def Sorted (l : List RT) : Prop := l.Pairwise fun a b => ltN b.name a.name = false
/-- What the program asks of what it has sorted. -/
def fresh : List RT → Bool
  | [] => true
  | [r] => r.ok
  | r :: x :: l => r.ok && !(x.name == r.name) && fresh (x :: l)
theorem fresh_rise : ∀ {l : List RT}, Sorted l → fresh l = true → Rise l ∧ l.all RT.ok = true
  | [], _, _ => ⟨.nil, rfl⟩
  | [r], _, h => ⟨List.pairwise_singleton _ _, by simpa [fresh] using h⟩
  | r :: x :: l, hs, h => by
    simp only [fresh, Bool.and_eq_true] at h
    obtain ⟨⟨h1, h2⟩, h3⟩ := h
    have hc := List.pairwise_cons.1 hs
    obtain ⟨h4, h5⟩ := fresh_rise hc.2 h3
    have hrx : ltN r.name x.name = true := by
      cases hh : ltN r.name x.name with
      | true => rfl
      | false =>
        have := ltN_total hh (hc.1 x (List.mem_cons_self ..))
        rw [this] at h2
        simp at h2
    refine ⟨List.pairwise_cons.2 ⟨fun y hy => ?_, h4⟩, by rw [List.all_cons, h1, h5]; rfl⟩
    rcases List.mem_cons.1 hy with rfl | hy
    · exact hrx
    · exact ltN_trans hrx ((List.pairwise_cons.1 h4).1 y hy)
theorem fresh_not : ∀ {l : List RT}, fresh l = false → l.all RT.ok = false ∨ ¬ (l.map RT.name).Nodup
  | [], h => by cases h
  | [r], h => by left; simpa [fresh] using h
  | r :: x :: l, h => by
    simp only [fresh] at h
    cases h1 : r.ok with
    | false => left; rw [List.all_cons, h1]; rfl
    | true =>
      rw [h1, Bool.true_and] at h
      by_cases h2 : x.name = r.name
      · right
        intro hn
        rw [List.map_cons, List.nodup_cons] at hn
        exact hn.1 (by rw [← h2]; simp)
      · have e : (x.name == r.name) = false := by simpa using h2
        rw [e] at h
        simp only [Bool.not_false, Bool.true_and] at h
        rcases fresh_not h with h3 | h3
        · left; rw [List.all_cons, h3, Bool.and_false]
        · right
          intro hn
          rw [List.map_cons, List.nodup_cons] at hn
          exact h3 hn.2
theorem rise_unique : ∀ {a b : List RT}, Rise a → Rise b → a.Perm b → a = b
  | [], b, _, _, hp => (List.nil_perm.1 hp).symm
  | x :: a, [], _, _, hp => absurd (List.perm_nil.1 hp) (by simp)
  | x :: a, y :: b, ha, hb, hp => by
    have hca := List.pairwise_cons.1 ha
    have hcb := List.pairwise_cons.1 hb
    have hxy : x = y := by
      rcases List.mem_cons.1 (hp.mem_iff.1 (List.mem_cons_self ..)) with h | h
      · exact h
      · rcases List.mem_cons.1 (hp.symm.mem_iff.1 (List.mem_cons_self ..)) with h2 | h2
        · exact h2.symm
        · have h3 := hcb.1 x h
          have h4 := hca.1 y h2
          rw [ltN_asymm h3] at h4
          cases h4
    subst hxy
    rw [rise_unique hca.2 hcb.2 (List.Perm.cons_inv hp)]
/-- The program's sorted is the document's. -/
theorem fresh_sortO {l d : List RT} (hp : d.Perm l) (hs : Sorted d) : sortO l [] = if fresh d then some d else none := by
  cases hf : fresh d with
  | true =>
    rw [if_pos rfl]
    obtain ⟨hr, hok⟩ := fresh_rise hs hf
    cases he : sortO l [] with
    | none =>
      exfalso
      rcases sortO_none .nil he with h | h
      · have : d.all RT.ok = false := by rw [hp.all_eq]; exact h
        rw [hok] at this; cases this
      · rw [List.append_nil] at h
        exact h ((hp.map RT.name).nodup_iff.1 (rise_ne hr))
    | some s =>
      obtain ⟨h1, h2, _⟩ := sortO_some .nil he
      rw [List.append_nil] at h2
      rw [rise_unique hr h1 (hp.trans h2.symm)]
  | false =>
    rw [if_neg (by decide)]
    cases he : sortO l [] with
    | none => rfl
    | some s =>
      exfalso
      obtain ⟨h1, h2, h3⟩ := sortO_some .nil he
      rw [List.append_nil] at h2
      rcases fresh_not hf with h | h
      · rw [hp.all_eq, h3] at h; cases h
      · exact h (((hp.trans h2.symm).map RT.name).nodup_iff.2 (rise_ne h1))
end Gr
end Go.Proofs.YtenikoecnfbfoaaGreatDoor
/- Layer 8 in plain words: where a root goes among those that are sorted. -/
namespace Go.Proofs.YtenikoecnfbfoaaGreatDoor
namespace Gr
set_option linter.unusedVariables false
set_option linter.unusedSimpArgs false

theorem insR_at (r : RT) : ∀ (out : List RT) (k : Nat), k ≤ out.length → (∀ j x, j < k → out[j]? = some x → ltN x.name r.name = true) → (∀ x, out[k]? = some x → ltN x.name r.name = false) → insR r out = out.take k ++ r :: out.drop k
  | [], k, hk, _, _ => by
    have : k = 0 := by simpa using hk
    subst this
    rfl
  | x :: out, 0, _, _, h => by
    have hx := h x rfl
    unfold insR
    rw [hx]
    rfl
  | x :: out, k + 1, hk, h1, h2 => by
    have hx := h1 0 x (by omega) rfl
    unfold insR
    rw [if_pos hx, insR_at r out k (by simpa using hk) (fun j y hj hy => h1 (j + 1) y (by omega) (by simpa using hy)) (fun y hy => h2 y (by simpa using hy))]
    rfl
/-- Is one there of that name? Only where it would go. -/
theorem any_at {out : List RT} (hr : Rise out) {r : RT} {k : Nat} (hk : k ≤ out.length) (h1 : ∀ j x, j < k → out[j]? = some x → ltN x.name r.name = true) (h2 : ∀ x, out[k]? = some x → ltN x.name r.name = false) :
    (out.any (fun x => x.name == r.name)) = match out[k]? with
      | some x => x.name == r.name
      | none => false := by
  cases hx : out[k]? with
  | none =>
    rw [Bool.eq_false_iff]
    intro ha
    obtain ⟨y, hy, hn⟩ := List.any_eq_true.1 ha
    obtain ⟨j, hj⟩ := List.mem_iff_getElem?.1 hy
    have hn : y.name = r.name := by simpa using hn
    have hjl := (List.getElem?_eq_some_iff.1 hj).1
    have hkl : out.length ≤ k := List.getElem?_eq_none_iff.1 hx
    have := h1 j y (by omega) hj
    rw [hn, ltN_irrefl] at this
    cases this
  | some x =>
    simp only
    cases he : (x.name == r.name) with
    | true => exact List.any_eq_true.2 ⟨x, List.mem_of_getElem? hx, he⟩
    | false =>
      rw [Bool.eq_false_iff]
      intro ha
      obtain ⟨y, hy, hn⟩ := List.any_eq_true.1 ha
      obtain ⟨j, hj⟩ := List.mem_iff_getElem?.1 hy
      have hn : y.name = r.name := by simpa using hn
      have hxr := h2 x hx
      by_cases hjk : j < k
      · have := h1 j y hjk hj
        rw [hn, ltN_irrefl] at this
        cases this
      · by_cases hjk2 : j = k
        · subst hjk2
          rw [hx] at hj
          cases hj
          rw [hn] at he
          simp at he
        · have hkl := (List.getElem?_eq_some_iff.1 hx)
          have hjl := (List.getElem?_eq_some_iff.1 hj)
          have hp := (List.pairwise_iff_getElem.1 hr) k j hkl.1 hjl.1 (by omega)
          rw [hkl.2, hjl.2, hn] at hp
          rw [hp] at hxr
          cases hxr
end Gr
end Go.Proofs.YtenikoecnfbfoaaGreatDoor
