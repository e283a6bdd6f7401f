/- A heap in which a list of numbers lies. No program in sight. -/
import Derived.Test.YtlbiapgikkjooaaRing
namespace Go.Proofs.Ytlbiapgikkjooaa.Hp

/-- The word of a list that lies in the objects ids. -/
def headRef : List Nat → Ref
  | [] => imm 0
  | i :: _ => obj i
/-- Numbers (as they lie), in cells that name one another. -/
def Linked (A : AH) : List Int → List Nat → Prop
  | [], [] => True
  | n :: l, i :: ids => A.objs[i]? = some ⟨3, false, [imm n, headRef ids], []⟩ ∧ i ∉ ids ∧ Linked A l ids
  | _, _ => False

theorem Linked.congr {A B : AH} : ∀ {l : List Int} {ids : List Nat}, Linked A l ids → (∀ (i : Nat) (o : Ob), A.objs[i]? = some o → B.objs[i]? = some o) → Linked B l ids
  | [], [], _, _ => trivial
  | _ :: _, _ :: _, h, hc => ⟨hc _ _ h.1, h.2.1, h.2.2.congr hc⟩
theorem Linked.len {A : AH} : ∀ {l : List Int} {ids : List Nat}, Linked A l ids → ids.length = l.length
  | [], [], _ => rfl
  | _ :: _, _ :: _, h => by simp [h.2.2.len]
theorem Linked.lt {A : AH} : ∀ {l : List Int} {ids : List Nat}, Linked A l ids → ∀ i ∈ ids, i < A.objs.length
  | [], [], _, _, h => by cases h
  | _ :: _, _ :: _, h, i, hi => by
    rcases List.mem_cons.1 hi with e | hi
    · subst e; exact (List.getElem?_eq_some_iff.1 h.1).1
    · exact h.2.2.lt i hi
theorem Linked.nodup {A : AH} : ∀ {l : List Int} {ids : List Nat}, Linked A l ids → ids.Nodup
  | [], [], _ => List.nodup_nil
  | _ :: _, _ :: _, h => List.nodup_cons.2 ⟨h.2.1, h.2.2.nodup⟩
theorem Linked.total {A : AH} : ∀ {l : List Int} {ids : List Nat}, Linked A l ids → total A ids = 3 * l.length
  | [], [], _ => rfl
  | _ :: _, i :: _, h => by
    rw [total_cons, h.2.2.total, show sizeAt A i = 3 by unfold sizeAt; rw [h.1]; rfl, List.length_cons]; omega
theorem Linked.edge {A : AH} : ∀ {l : List Int} {ids : List Nat}, Linked A l ids → ∀ i r j, i ∈ ids → A.Edge i r → Names r j → j ∈ ids
  | [], [], _, _, _, _, h, _, _ => by cases h
  | n :: l, i0 :: ids, h, i, r, j, hi, he, hn => by
    rcases List.mem_cons.1 hi with e | hi
    · subst e
      obtain ⟨o, h1, h2, h3⟩ := he
      rw [h.1] at h1; cases h1
      rcases List.mem_cons.1 h3 with e | h3
      · subst e; have := hn.1; cases this
      · rw [List.mem_singleton] at h3
        subst h3
        cases ids with
        | nil => have := hn.1; cases this
        | cons k ids => have := names_obj hn; subst this; exact List.mem_cons_of_mem _ (List.mem_cons_self ..)
    · exact List.mem_cons_of_mem _ (h.2.2.edge i r j hi he hn)
theorem Linked.reach {A : AH} : ∀ {l : List Int} {ids : List Nat}, Linked A l ids → (∀ j, Names (headRef ids) j → A.Reach j) → ∀ i ∈ ids, A.Reach i
  | [], [], _, _, _, h => by cases h
  | n :: l, i0 :: ids, h, hr, i, hi => by
    have h0 : A.Reach i0 := hr i0 (obj_names i0)
    rcases List.mem_cons.1 hi with e | hi
    · subst e; exact h0
    · refine h.2.2.reach (fun j hj => ?_) i hi
      exact h0.edge ⟨_, h.1, rfl, List.mem_cons_of_mem _ (List.mem_singleton.2 rfl)⟩ hj

/-- On the stack lies the list, and behind it words that are none of its objects' but perhaps the list once more. -/
structure Lst (A : AH) (lim : Nat) (l : List Int) (ids : List Nat) (rest : List Ref) : Prop where
  lim : A.limit = lim
  st : A.stack = headRef ids :: rest
  lk : Linked A l ids
  pn : ∀ q, A.pins q = none

section
variable {A : AH} {lim : Nat} {l : List Int} {ids : List Nat} {rest : List Ref}
theorem lst_start (n : Nat) : Lst ((AH.empty n).push (imm 0)) n [] [] [] := ⟨rfl, rfl, trivial, fun _ => rfl⟩
theorem Lst.live (h : Lst A lim l ids rest) (hr : ∀ r ∈ rest, r.obj = false ∨ r = headRef ids) (hwf : A.Wf) : A.live = 3 * l.length := by
  rw [live_of hwf ids h.lk.nodup (fun i hi => h.lk.reach (fun j hj => .root (.inl (by rw [h.st]; exact List.mem_cons_self ..)) hj) i hi) (fun r j hro hn => ?_) (fun i r j hi he hn => h.lk.edge i r j hi he hn)]
  · exact h.lk.total
  · have key : r = headRef ids → j ∈ ids := fun e => by
      subst e
      cases ids with
      | nil => have := hn.1; cases this
      | cons k ids => have := names_obj hn; subst this; exact List.mem_cons_self ..
    rcases hro with hro | ⟨q, hq⟩
    · rw [h.st] at hro
      rcases List.mem_cons.1 hro with e | hro
      · exact key e
      · rcases hr r hro with e | e
        · have := hn.1; rw [e] at this; cases this
        · exact key e
    · rw [h.pn] at hq; cases hq
theorem Lst.push (h : Lst A lim l ids rest) (r : Ref) : Lst (A.push r) lim l ids (rest ++ [r]) :=
  ⟨h.lim, by simp only [AH.push]; rw [h.st]; rfl, h.lk.congr fun _ _ h => h, h.pn⟩
theorem Lst.raw (h : Lst A lim l ids rest) (k : Nat) (s : List UInt8) : Lst (A.raw k s) lim l ids (rest ++ [obj A.objs.length]) := by
  refine ⟨h.lim, ?_, h.lk.congr fun i o ho => ?_, h.pn⟩
  · simp only [AH.raw, AH.add]; rw [Nat.sub_zero, List.take_length, h.st]; rfl
  · simp only [AH.raw, AH.add]; rw [List.getElem?_append_left (List.getElem?_eq_some_iff.1 ho).1]; exact ho
theorem Lst.drop (h : Lst A lim l ids rest) (n : Nat) (hn : n ≤ rest.length) : Lst (A.drop n) lim l ids (rest.take (rest.length - n)) := by
  refine ⟨h.lim, ?_, h.lk.congr fun _ _ h => h, h.pn⟩
  simp only [AH.drop]; rw [h.st, List.length_cons, show rest.length + 1 - n = (rest.length - n) + 1 by omega, List.take_succ_cons]
theorem Lst.top (h : Lst A lim l ids rest) (hn : rest.length = 1) : A.topI 1 = headRef ids := by
  unfold AH.topI AH.top
  rw [if_pos (by omega), h.st, if_pos (by simp; omega)]
  simp [hn]
theorem Lst.top0 (h : Lst A lim l ids []) : A.topI 0 = headRef ids := by
  unfold AH.topI AH.top
  rw [if_pos (by omega), h.st, if_pos (by simp)]
  simp
/-- One number more. -/
theorem Lst.make {n : Int} (h : Lst A lim l ids [imm n, headRef ids]) : ∃ B, B = { A.make 3 2 with stack := [obj A.objs.length] } ∧ Lst B lim (n :: l) (A.objs.length :: ids) [] ∧ (A.make 3 2).stack = [headRef ids, obj A.objs.length] := by
  have e1 : A.stack.length = 3 := by rw [h.st]; rfl
  have e2 : A.stack.drop (A.stack.length - 2) = [imm n, headRef ids] := by rw [e1, h.st]; rfl
  have e3 : A.stack.take (A.stack.length - 2) = [headRef ids] := by rw [e1, h.st]; rfl
  refine ⟨_, rfl, ⟨h.lim, rfl, ⟨?_, fun hm => ?_, ?_⟩, h.pn⟩, ?_⟩
  · simp only [AH.make, AH.add]
    rw [e2, List.getElem?_append_right (Nat.le_refl _), Nat.sub_self]; rfl
  · have := h.lk.lt _ hm; omega
  · refine h.lk.congr fun i o ho => ?_
    simp only [AH.make, AH.add]
    rw [List.getElem?_append_left (List.getElem?_eq_some_iff.1 ho).1]; exact ho
  · simp only [AH.make, AH.add]
    rw [e3]; rfl
/-- The list's parts, as they are read. -/
theorem Linked.read {A : AH} {n : Int} {l : List Int} {ids : List Nat} (h : Linked A (n :: l) ids) : ∃ i ids', ids = i :: ids' ∧ A.kindOf (headRef ids) = 3 ∧ A.fieldI (headRef ids) 0 = imm n ∧ A.fieldI (headRef ids) 1 = headRef ids' ∧ Linked A l ids' := by
  cases ids with
  | nil => cases h
  | cons i ids =>
    have hf : A.fields (obj i) = [imm n, headRef ids] := by
      unfold AH.fields; rw [if_pos (show (obj i).obj = true from rfl), obj_ix, h.1]; rfl
    refine ⟨i, ids, rfl, ?_, ?_, ?_, h.2.2⟩
    · unfold AH.kindOf headRef; rw [if_pos (show (obj i).obj = true from rfl), obj_ix, h.1]; rfl
    · unfold AH.fieldI AH.field headRef; rw [if_pos (by omega), hf]; rfl
    · unfold AH.fieldI AH.field; rw [if_pos (by omega)]; show (A.fields (obj i)).getD 1 (imm 0) = _; rw [hf]; rfl
end
end Go.Proofs.Ytlbiapgikkjooaa.Hp
