/- A heap of like objects without names in them, one behind the other on the stack. No program in sight. -/
import Derived.Test.YtlbiapgikkjooaaHeapLive
namespace Go.Proofs.Ytlbiapgikkjooaa.Hp

def nums (n : Nat) : List Ref := (List.range n).map fun (i : Nat) => imm (i : Int)
theorem nums_length (n : Nat) : (nums n).length = n := by simp [nums]
theorem nums_succ (n : Nat) : nums (n + 1) = nums n ++ [imm n] := by simp [nums, List.range_succ]
theorem nums_int {n : Nat} {r : Ref} (h : r ∈ nums n) : r.obj = false := by
  obtain ⟨i, _, rfl⟩ := List.mem_map.1 h; rfl
def refs (l : List Nat) : List Ref := l.map fun (i : Nat) => ⟨true, (i : Int)⟩

/-- On the stack lie the objects l, each of f numbers, and behind them the numbers 0 .. s - 1. -/
structure Flat (A : AH) (lim f : Nat) (l : List Nat) (s : Nat) : Prop where
  lim : A.limit = lim
  st : A.stack = refs l ++ nums s
  nd : l.Nodup
  ob : ∀ i ∈ l, ∃ k, A.objs[i]? = some ⟨k, false, nums f, []⟩
  pn : ∀ k, A.pins k = none

theorem flat_empty (lim f : Nat) : Flat (AH.empty lim) lim f [] 0 := ⟨rfl, rfl, List.nodup_nil, by simp, fun _ => rfl⟩

section
variable {A : AH} {lim f s : Nat} {l : List Nat}
theorem Flat.len (h : Flat A lim f l s) : A.stack.length = l.length + s := by rw [h.st]; simp [refs, nums_length]
theorem Flat.push (h : Flat A lim f l s) : Flat (A.push (imm s)) lim f l (s + 1) :=
  ⟨h.lim, by simp only [AH.push]; rw [h.st, nums_succ, List.append_assoc], h.nd, h.ob, h.pn⟩
theorem Flat.lt (h : Flat A lim f l s) {i : Nat} (hi : i ∈ l) : i < A.objs.length := by
  obtain ⟨k, hk⟩ := h.ob i hi; exact (List.getElem?_eq_some_iff.1 hk).1
theorem Flat.drop (h : Flat A lim f l s) : Flat (A.drop s) lim f l 0 := by
  refine ⟨h.lim, ?_, h.nd, h.ob, h.pn⟩
  simp only [AH.drop]
  rw [h.len, h.st, show l.length + s - s = (refs l).length by simp [refs], List.take_left]; simp [nums]
theorem Flat.make (h : Flat A lim f l f) (k : Nat) : Flat (A.make k f) lim f (l ++ [A.objs.length]) 0 := by
  have e : A.stack.drop (A.stack.length - f) = nums f := by
    rw [h.len, h.st, show l.length + f - f = (refs l).length by simp [refs], List.drop_left]
  have e2 : A.stack.take (A.stack.length - f) = refs l := by
    rw [h.len, h.st, show l.length + f - f = (refs l).length by simp [refs], List.take_left]
  refine ⟨h.lim, ?_, ?_, fun i hi => ?_, h.pn⟩
  · simp only [AH.make, AH.add]
    rw [e2]; simp [refs, nums]
  · rw [List.nodup_append]
    exact ⟨h.nd, by simp, fun a ha b hb e => by rw [List.mem_singleton] at hb; have := h.lt ha; omega⟩
  · simp only [AH.make, AH.add]
    rcases List.mem_append.1 hi with hi | hi
    · obtain ⟨k', hk'⟩ := h.ob i hi
      exact ⟨k', by rw [List.getElem?_append_left (h.lt hi)]; exact hk'⟩
    · rw [List.mem_singleton] at hi; subst hi
      exact ⟨k, by rw [List.getElem?_append_right (Nat.le_refl _), Nat.sub_self, e]; rfl⟩
theorem Flat.dropL (h : Flat A lim f l 0) (g : Nat) : Flat (A.drop g) lim f (l.take (l.length - g)) 0 := by
  refine ⟨h.lim, ?_, h.nd.sublist (List.take_sublist _ _), fun i hi => h.ob i (List.mem_of_mem_take hi), h.pn⟩
  simp only [AH.drop]
  rw [h.len, h.st]
  simp [nums, refs, List.map_take]

theorem Flat.live (h : Flat A lim f l s) (hwf : A.Wf) : A.live = l.length * (1 + f) := by
  have hroot : ∀ r, A.Root r → r ∈ refs l ∨ r ∈ nums s := fun r hr => by
    rcases hr with hr | ⟨k, hk⟩
    · rw [h.st] at hr; exact List.mem_append.1 hr
    · rw [h.pn] at hk; cases hk
  rw [live_of hwf l h.nd (fun i hi => .root (.inl (by rw [h.st]; exact List.mem_append.2 (.inl (List.mem_map.2 ⟨i, hi, rfl⟩)))) ⟨rfl, rfl⟩) (fun r j hr hn => ?_) (fun i r j hi he hn => ?_)]
  · have hs : ∀ i ∈ l, sizeAt A i = 1 + f := fun i hi => by
      obtain ⟨k, hk⟩ := h.ob i hi
      unfold sizeAt; rw [hk]; simp [Ob.size, nums_length]
    have key : ∀ l : List Nat, (∀ i ∈ l, sizeAt A i = 1 + f) → total A l = l.length * (1 + f) := by
      intro l
      induction l with
      | nil => intro _; simp [total]
      | cons a l ih =>
        intro hs
        rw [total_cons, ih (fun i hi => hs i (List.mem_cons_of_mem _ hi)), hs a (List.mem_cons_self ..), List.length_cons, Nat.add_mul, Nat.one_mul, Nat.add_comm]
    exact key l hs
  · rcases hroot r hr with hm | hm
    · obtain ⟨i, hi, rfl⟩ := List.mem_map.1 hm
      have := hn.2
      simp only at this
      obtain rfl : i = j := by omega
      exact hi
    · have := nums_int hm; rw [hn.1] at this; cases this
  · obtain ⟨o, h1, h2, h3⟩ := he
    obtain ⟨k, hk⟩ := h.ob i hi
    rw [hk] at h1; cases h1
    have := nums_int h3; rw [hn.1] at this; cases this
end
end Go.Proofs.Ytlbiapgikkjooaa.Hp
