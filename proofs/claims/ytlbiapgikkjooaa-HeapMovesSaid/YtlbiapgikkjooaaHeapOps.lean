/- What the calls of a heap do to it, in plain words; no program in sight. -/
import Derived.Test.YtlbiapgikkjooaaHeapClean2
namespace Go.Proofs.Ytlbiapgikkjooaa.Hp
set_option linter.unusedSimpArgs false
set_option linter.unusedVariables false
set_option linter.unusedSectionVars false

def imm (n : Int) : Ref := ⟨false, n⟩
def AH.push (A : AH) (r : Ref) : AH := { A with stack := A.stack ++ [r] }
def AH.drop (A : AH) (n : Nat) : AH := { A with stack := A.stack.take (A.stack.length - n) }
def AH.top (A : AH) (i : Nat) : Ref := if i < A.stack.length then A.stack.getD (A.stack.length - 1 - i) (imm 0) else imm 0
def AH.pin (A : AH) (k : Int) (r : Ref) : AH := { A with pins := fun j => if j = k then some r else A.pins j }
def AH.unpin (A : AH) (k : Int) : AH := { A with pins := fun j => if j = k then none else A.pins j }
def AH.add (A : AH) (o : Ob) (n : Nat) : AH := { A with objs := A.objs ++ [o], stack := A.stack.take (A.stack.length - n) ++ [⟨true, A.objs.length⟩] }
def AH.make (A : AH) (kind n : Nat) : AH := A.add ⟨kind, false, A.stack.drop (A.stack.length - n), []⟩ n
def AH.raw (A : AH) (kind : Nat) (s : List UInt8) : AH := A.add ⟨kind, true, [], s⟩ 0
def AH.fields (A : AH) (r : Ref) : List Ref := if r.obj then ((A.objs[r.ix]?).map Ob.fields).getD [] else []
def AH.field (A : AH) (r : Ref) (i : Nat) : Ref := (A.fields r).getD i (imm 0)
def AH.setField (A : AH) (i c : Nat) (x : Ref) : AH := { A with objs := A.objs.modify i fun o => { o with fields := o.fields.set c x } }

section
variable {A : AH} {φ : Nat → Nat} {cells stack : List Int} {pins : Int → Option Int}

theorem ok_imm {n : Int} (h1 : -4611686018427387904 ≤ n) (h2 : n ≤ 4611686018427387903) : A.Ok (imm n) := by
  unfold AH.Ok imm; rw [if_neg (by simp)]; exact ⟨h1, h2⟩
theorem ok_ix {r : Ref} (h : A.Ok r) (ho : r.obj = true) : 0 ≤ r.n := by
  unfold AH.Ok at h; rw [if_pos ho] at h; obtain ⟨i, hi, _⟩ := h; omega
theorem ok_names {r : Ref} {j : Nat} (h : A.Ok r) (hn : Names r j) : A.Reach j := by
  have := ok_obj h hn.1
  rwa [show r.ix = j from by unfold Ref.ix; rw [hn.2]; rfl] at this
theorem ok_int {r : Ref} (h : A.Ok r) (ho : r.obj = false) : -4611686018427387904 ≤ r.n ∧ r.n ≤ 4611686018427387903 := by
  unfold AH.Ok at h; rw [if_neg (by simp [ho])] at h; exact h

theorem AH.Wf.ok_top (h : A.Wf) (i : Nat) : A.Ok (A.top i) := by
  unfold AH.top
  split
  · rename_i hi
    refine h.ok_root (.inl ?_)
    rw [List.getD_eq_getElem?_getD, List.getElem?_eq_getElem (by omega)]
    exact List.getElem_mem _
  · exact ok_imm (by omega) (by omega)
theorem AH.Wf.ok_getField (h : A.Wf) {r : Ref} (hr : A.Ok r) (i : Nat) : A.Ok (A.field r i) := by
  unfold AH.field AH.fields
  cases ho : r.obj
  · simp only [Bool.false_eq_true, if_false]; exact ok_imm (by omega) (by omega)
  · simp only [if_true]
    have hi := ok_obj hr ho
    have hl := h.there _ hi
    have e : A.objs[r.ix]? = some A.objs[r.ix] := List.getElem?_eq_getElem hl
    rw [e]
    simp only [Option.map_some, Option.getD_some]
    cases hraw : (A.objs[r.ix]).raw
    · by_cases hc : i < (A.objs[r.ix]).fields.length
      · rw [List.getD_eq_getElem?_getD, List.getElem?_eq_getElem hc]
        exact h.ok_field hi ⟨_, e, hraw, List.getElem_mem _⟩
      · rw [List.getD_eq_getElem?_getD, List.getElem?_eq_none (by omega)]
        exact ok_imm (by omega) (by omega)
    · rw [(h.obj _ _ hi e).2.1 hraw]
      exact ok_imm (by omega) (by omega)

/-- Less is named: what is come to was come to. -/
theorem reach_sub {B : AH} (hobjs : B.objs = A.objs) (hr : ∀ r, B.Root r → A.Ok r) {i : Nat} (h : B.Reach i) : A.Reach i :=
  h A.Reach (fun r j hro hn => ok_names (hr r hro) hn) (fun i r j hi he hn => by
    unfold AH.Edge at he; rw [hobjs] at he; exact hi.edge he hn)

theorem Rep.weaken (h : Rep A φ cells stack pins) {B : AH} (hobjs : B.objs = A.objs) (hlim : B.limit = A.limit) (hr : ∀ r, B.Root r → A.Ok r) :
    Rep B φ cells (B.stack.map (word φ)) (fun k => (B.pins k).map (word φ)) := by
  have hs : ∀ i, B.Reach i → A.Reach i := fun i hi => reach_sub hobjs hr hi
  have hed : ∀ i r, B.Edge i r → A.Edge i r := fun i r he => by unfold AH.Edge at he ⊢; rw [hobjs] at he; exact he
  refine ⟨⟨?_, ?_, ?_, ?_, ?_, ?_⟩, ?_, ?_, rfl, fun _ => rfl, by rw [hlim]; exact h.room⟩
  · intro i o hi ho; rw [hobjs] at ho; exact h.wf.obj i o (hs i hi) ho
  · intro i hi; rw [hobjs]; exact h.wf.there i (hs i hi)
  · intro r hro ho; exact ok_int (hr r hro) ho
  · intro r hro ho; exact ok_ix (hr r hro) ho
  · intro i r hi he ho; exact h.wf.fieldInt i r (hs i hi) (hed i r he) ho
  · intro i r hi he ho; exact h.wf.fieldObj i r (hs i hi) (hed i r he) ho
  · intro i o hi ho; rw [hobjs] at ho; exact h.obj i o (hs i hi) ho
  · intro i j o p hi hj hne ho hp; rw [hobjs] at ho hp; exact h.apart i j o p (hs i hi) (hs j hj) hne ho hp

theorem Rep.push (h : Rep A φ cells stack pins) {r : Ref} (hr : A.Ok r) : Rep (A.push r) φ cells (stack ++ [word φ r]) pins := by
  have h2 := h.weaken (B := A.push r) rfl rfl (fun s hs => by
    rcases hs with hs | ⟨k, hk⟩
    · rcases List.mem_append.1 hs with hs | hs
      · exact h.wf.ok_root (.inl hs)
      · rw [List.mem_singleton] at hs; exact hs ▸ hr
    · exact h.wf.ok_root (.inr ⟨k, hk⟩))
  have e1 : (A.push r).stack.map (word φ) = stack ++ [word φ r] := by rw [h.stack]; simp [AH.push]
  have e2 : (fun k => ((A.push r).pins k).map (word φ)) = pins := by funext k; exact (h.pins k).symm
  rw [e1, e2] at h2
  exact h2

theorem Rep.drop (h : Rep A φ cells stack pins) (n : Nat) : Rep (A.drop n) φ cells (stack.take (stack.length - n)) pins := by
  have h2 := h.weaken (B := A.drop n) rfl rfl (fun s hs => by
    rcases hs with hs | ⟨k, hk⟩
    · exact h.wf.ok_root (.inl (List.mem_of_mem_take hs))
    · exact h.wf.ok_root (.inr ⟨k, hk⟩))
  have e1 : (A.drop n).stack.map (word φ) = stack.take (stack.length - n) := by rw [h.stack]; simp [AH.drop]
  have e2 : (fun k => ((A.drop n).pins k).map (word φ)) = pins := by funext k; exact (h.pins k).symm
  rw [e1, e2] at h2
  exact h2

theorem Rep.pin (h : Rep A φ cells stack pins) (k : Int) {r : Ref} (hr : A.Ok r) : Rep (A.pin k r) φ cells stack (fun j => if j = k then some (word φ r) else pins j) := by
  have h2 := h.weaken (B := A.pin k r) rfl rfl (fun s hs => by
    rcases hs with hs | ⟨j, hj⟩
    · exact h.wf.ok_root (.inl hs)
    · simp only [AH.pin] at hj
      by_cases e : j = k
      · rw [if_pos e] at hj; cases hj; exact hr
      · rw [if_neg e] at hj; exact h.wf.ok_root (.inr ⟨j, hj⟩))
  have e1 : (A.pin k r).stack.map (word φ) = stack := h.stack.symm
  have e2 : (fun j => ((A.pin k r).pins j).map (word φ)) = (fun j => if j = k then some (word φ r) else pins j) := by
    funext j
    simp only [AH.pin]
    by_cases e : j = k
    · rw [if_pos e, if_pos e]; rfl
    · rw [if_neg e, if_neg e]; exact (h.pins j).symm
  rw [e1, e2] at h2
  exact h2

theorem Rep.unpin (h : Rep A φ cells stack pins) (k : Int) : Rep (A.unpin k) φ cells stack (fun j => if j = k then none else pins j) := by
  have h2 := h.weaken (B := A.unpin k) rfl rfl (fun s hs => by
    rcases hs with hs | ⟨j, hj⟩
    · exact h.wf.ok_root (.inl hs)
    · simp only [AH.unpin] at hj
      by_cases e : j = k
      · rw [if_pos e] at hj; cases hj
      · rw [if_neg e] at hj; exact h.wf.ok_root (.inr ⟨j, hj⟩))
  have e1 : (A.unpin k).stack.map (word φ) = stack := h.stack.symm
  have e2 : (fun j => ((A.unpin k).pins j).map (word φ)) = (fun j => if j = k then none else pins j) := by
    funext j
    simp only [AH.unpin]
    by_cases e : j = k
    · rw [if_pos e, if_pos e]; rfl
    · rw [if_neg e, if_neg e]; exact (h.pins j).symm
  rw [e1, e2] at h2
  exact h2

/-- The heap with an object more. -/
def grown (φ : Nat → Nat) (n at_ : Nat) : Nat → Nat := fun i => if i = n then at_ else φ i

theorem word_grown {r : Ref} {at_ : Nat} (h : r.obj = true → r.ix < A.objs.length) : word (grown φ A.objs.length at_) r = word φ r :=
  word_same _ _ fun ho => by unfold grown; rw [if_neg (by have := h ho; omega)]

theorem AH.Wf.ix_lt (h : A.Wf) {r : Ref} (hr : A.Ok r) : r.obj = true → r.ix < A.objs.length := fun ho => h.there _ (ok_obj hr ho)

theorem reach_add (hwf : A.Wf) {o : Ob} {n : Nat} (hf : ∀ r ∈ o.fields, A.Ok r) {i : Nat} (h : (A.add o n).Reach i) : i = A.objs.length ∨ A.Reach i := by
  refine h (fun i => i = A.objs.length ∨ A.Reach i) (fun r j hro hn => ?_) (fun i r j hi he hn => ?_)
  · rcases hro with hs | ⟨k, hk⟩
    · rcases List.mem_append.1 hs with hs | hs
      · exact .inr (.root (.inl (List.mem_of_mem_take hs)) hn)
      · rw [List.mem_singleton] at hs
        left
        have := hn.2
        rw [hs] at this
        simp only at this
        omega
    · exact .inr (.root (.inr ⟨k, hk⟩) hn)
  · right
    obtain ⟨q, hq, hraw, hm⟩ := he
    simp only [AH.add] at hq
    rcases hi with e | hi
    · subst e
      rw [List.getElem?_append_right (Nat.le_refl _), Nat.sub_self] at hq
      cases hq
      exact ok_names (hf r hm) hn
    · rw [List.getElem?_append_left (hwf.there i hi)] at hq
      exact hi.edge ⟨q, hq, hraw, hm⟩ hn

theorem Rep.add (h : Rep A φ cells stack pins) {o : Ob} {n : Nat} (hf : ∀ r ∈ o.fields, A.Ok r) (ho : o.kind ≤ 1000 ∧ (o.raw = true → o.fields = []) ∧ (o.raw = false → o.bytes = [])) (hroom : cells.length + o.size ≤ A.limit) :
    Rep (A.add o n) (grown φ A.objs.length cells.length) (cells ++ enc φ o) (stack.take (stack.length - n) ++ [2 * (cells.length : Int)]) pins := by
  have hr : ∀ i, (A.add o n).Reach i → i = A.objs.length ∨ A.Reach i := fun i hi => reach_add h.wf hf hi
  have hold : ∀ i, A.Reach i → (A.add o n).objs[i]? = A.objs[i]? := fun i hi => List.getElem?_append_left (h.wf.there i hi)
  have hnew : (A.add o n).objs[A.objs.length]? = some o := by simp [AH.add]
  have hg : ∀ i, A.Reach i → grown φ A.objs.length cells.length i = φ i := fun i hi => if_neg (by have := h.wf.there i hi; omega)
  have hgn : grown φ A.objs.length cells.length A.objs.length = cells.length := if_pos rfl
  have henc : ∀ i q, A.Reach i → A.objs[i]? = some q → enc (grown φ A.objs.length cells.length) q = enc φ q := fun i q hi hq => by
    unfold enc body
    cases hraw : q.raw
    · simp only [Bool.false_eq_true, if_false]
      congr 1
      exact List.map_congr_left fun r hrm => word_grown (h.wf.ix_lt (h.wf.ok_field hi ⟨q, hq, hraw, hrm⟩))
    · rfl
  have henco : enc (grown φ A.objs.length cells.length) o = enc φ o := by
    unfold enc body
    cases hraw : o.raw
    · simp only [Bool.false_eq_true, if_false]
      congr 1
      exact List.map_congr_left fun r hrm => word_grown (h.wf.ix_lt (hf r hrm))
    · rfl
  have hroot : ∀ r, (A.add o n).Root r → A.Root r ∨ r = ⟨true, A.objs.length⟩ := fun r hro => by
    rcases hro with hs | ⟨k, hk⟩
    · rcases List.mem_append.1 hs with hs | hs
      · exact .inl (.inl (List.mem_of_mem_take hs))
      · rw [List.mem_singleton] at hs; exact .inr hs
    · exact .inl (.inr ⟨k, hk⟩)
  have hok : ∀ i r, (A.add o n).Reach i → (A.add o n).Edge i r → A.Ok r := fun i r hi ⟨q, hq, hraw, hm⟩ => by
    rcases hr i hi with e | hi
    · subst e; rw [hnew] at hq; cases hq; exact hf r hm
    · rw [hold i hi] at hq; exact h.wf.ok_field hi ⟨q, hq, hraw, hm⟩
  refine ⟨⟨?_, ?_, ?_, ?_, ?_, ?_⟩, ?_, ?_, ?_, ?_, ?_⟩
  · intro i q hi hq
    rcases hr i hi with e | hi
    · subst e; rw [hnew] at hq; cases hq; exact ho
    · rw [hold i hi] at hq; exact h.wf.obj i q hi hq
  · intro i hi
    have : (A.add o n).objs.length = A.objs.length + 1 := by simp [AH.add]
    rcases hr i hi with e | hi
    · omega
    · have := h.wf.there i hi; omega
  · intro r hro hob
    rcases hroot r hro with hro | e
    · exact h.wf.rootInt r hro hob
    · subst e; cases hob
  · intro r hro hob
    rcases hroot r hro with hro | e
    · exact h.wf.rootObj r hro hob
    · subst e; simp
  · intro i r hi he hob; exact ok_int (hok i r hi he) hob
  · intro i r hi he hob; exact ok_ix (hok i r hi he) hob
  · intro i q hi hq
    rw [List.length_append, length_enc]
    rcases hr i hi with e | hi
    · subst e; rw [hnew] at hq; cases hq
      rw [hgn, henco]
      refine ⟨?_, Nat.le_refl _⟩
      unfold Holds
      rw [List.drop_append, List.drop_length, Nat.sub_self, List.drop_zero, List.nil_append, List.take_length]
    · rw [hold i hi] at hq
      obtain ⟨h1, h2⟩ := h.obj i q hi hq
      rw [hg i hi, henc i q hi hq]
      refine ⟨?_, by omega⟩
      unfold Holds at h1 ⊢
      rw [List.drop_append, show φ i - cells.length = 0 from by omega, List.drop_zero, List.take_append_of_le_length (by rw [length_enc, List.length_drop]; omega)]
      exact h1
  · intro i j q p hi hj hne hq hp
    rcases hr i hi with e | hi <;> rcases hr j hj with e' | hj
    · exact absurd (e.trans e'.symm) hne
    · subst e
      rw [hold j hj] at hp
      have := (h.obj j p hj hp).2
      rw [hg j hj, hgn]
      right; omega
    · subst e'
      rw [hold i hi] at hq
      have := (h.obj i q hi hq).2
      rw [hg i hi, hgn]
      left; omega
    · rw [hold i hi] at hq
      rw [hold j hj] at hp
      rw [hg i hi, hg j hj]
      exact h.apart i j q p hi hj hne hq hp
  · rw [h.stack]
    simp only [AH.add, List.map_append, List.map_cons, List.map_nil, List.length_map, List.map_take]
    congr 1
    · rw [← List.map_take, ← List.map_take]
      exact List.map_congr_left fun r hrm => (word_grown (h.wf.ix_lt (h.wf.ok_root (.inl (List.mem_of_mem_take hrm))))).symm
    · rw [word_obj _ rfl]
      unfold Ref.ix
      simp only [Int.toNat_natCast, hgn]
  · intro k
    rw [h.pins k]
    simp only [AH.add]
    cases hk : A.pins k with
    | none => rfl
    | some r =>
      simp only [Option.map_some]
      rw [word_grown (h.wf.ix_lt (h.wf.ok_root (.inr ⟨k, hk⟩)))]
  · rw [List.length_append, length_enc]
    exact hroom

theorem objs_set (A : AH) (i c : Nat) (x : Ref) (j : Nat) : (A.setField i c x).objs[j]? = (A.objs[j]?).map fun o => if i = j then { o with fields := o.fields.set c x } else o := by
  simp only [AH.setField, List.getElem?_modify]
  cases A.objs[j]? with
  | none => rfl
  | some o => by_cases e : i = j <;> simp [e]

theorem edge_set {i c : Nat} {x : Ref} {j : Nat} {r : Ref} (h : (A.setField i c x).Edge j r) : A.Edge j r ∨ r = x := by
  obtain ⟨o, ho, hraw, hm⟩ := h
  rw [objs_set] at ho
  cases hq : A.objs[j]? with
  | none => rw [hq] at ho; cases ho
  | some q =>
    rw [hq] at ho
    simp only [Option.map_some, Option.some.injEq] at ho
    by_cases e : i = j
    · rw [if_pos e] at ho
      subst ho
      rcases List.mem_or_eq_of_mem_set hm with hm | hm
      · exact .inl ⟨q, hq, hraw, hm⟩
      · exact .inr hm
    · rw [if_neg e] at ho
      subst ho
      exact .inl ⟨q, hq, hraw, hm⟩

theorem reach_set {i c : Nat} {x : Ref} (hx : A.Ok x) {j : Nat} (h : (A.setField i c x).Reach j) : A.Reach j :=
  h A.Reach (fun r j hro hn => .root hro hn) (fun k r j hk he hn => by
    rcases edge_set he with he | e
    · exact hk.edge he hn
    · subst e; exact ok_names hx hn)

theorem Rep.setField (h : Rep A φ cells stack pins) {i c : Nat} {o : Ob} {x : Ref} (hi : A.Reach i) (ho : A.objs[i]? = some o) (hraw : o.raw = false) (hc : c < o.fields.length) (hx : A.Ok x) :
    Rep (A.setField i c x) φ (cells.set (φ i + 1 + c) (word φ x)) stack pins := by
  have hs : ∀ j, (A.setField i c x).Reach j → A.Reach j := fun j hj => reach_set hx hj
  have hok : ∀ j r, (A.setField i c x).Reach j → (A.setField i c x).Edge j r → A.Ok r := fun j r hj he => by
    rcases edge_set he with he | e
    · exact h.wf.ok_field (hs j hj) he
    · exact e ▸ hx
  have hobj : ∀ j q, (A.setField i c x).objs[j]? = some q → ∃ p, A.objs[j]? = some p ∧ q.size = p.size ∧ q = if i = j then { p with fields := p.fields.set c x } else p := fun j q hq => by
    rw [objs_set] at hq
    cases hp : A.objs[j]? with
    | none => rw [hp] at hq; cases hq
    | some p =>
      rw [hp] at hq
      simp only [Option.map_some, Option.some.injEq] at hq
      refine ⟨p, rfl, ?_, hq.symm⟩
      subst hq
      by_cases e : i = j
      · rw [if_pos e]; unfold Ob.size; simp
      · rw [if_neg e]
  have hext := (h.obj i o hi ho).2
  have hsz : o.size = 1 + o.fields.length := by unfold Ob.size; simp [hraw]
  refine ⟨⟨?_, ?_, ?_, ?_, ?_, ?_⟩, ?_, ?_, h.stack, h.pins, by rw [List.length_set]; exact h.room⟩
  · intro j q hj hq
    obtain ⟨p, hp, _, rfl⟩ := hobj j q hq
    have := h.wf.obj j p (hs j hj) hp
    by_cases e : i = j
    · subst e
      rw [ho] at hp; cases hp
      rw [if_pos rfl]
      refine ⟨this.1, fun e => ?_, this.2.2⟩
      simp only at e
      rw [hraw] at e; cases e
    · rw [if_neg e]; exact this
  · intro j hj
    have : (A.setField i c x).objs.length = A.objs.length := by simp [AH.setField]
    rw [this]; exact h.wf.there j (hs j hj)
  · intro r hro ho; exact h.wf.rootInt r hro ho
  · intro r hro ho; exact h.wf.rootObj r hro ho
  · intro j r hj he hob; exact ok_int (hok j r hj he) hob
  · intro j r hj he hob; exact ok_ix (hok j r hj he) hob
  · intro j q hj hq
    obtain ⟨p, hp, hps, hqp⟩ := hobj j q hq
    obtain ⟨h1, h2⟩ := h.obj j p (hs j hj) hp
    rw [List.length_set, hps]
    refine ⟨?_, h2⟩
    unfold Holds at h1 ⊢
    apply List.ext_getElem?
    intro d
    have h3 := congrArg (fun l : List Int => l[d]?) h1
    simp only [List.getElem?_take, List.getElem?_drop, length_enc] at h3 ⊢
    rw [hps]
    by_cases hd : d < p.size
    · rw [if_pos hd] at h3 ⊢
      by_cases e : i = j
      · subst e
        rw [ho] at hp; cases hp
        rw [if_pos rfl] at hqp
        subst hqp
        have hb : (enc φ { o with fields := o.fields.set c x }) = head o :: (o.fields.map (word φ)).set c (word φ x) := by
          unfold enc body head
          simp [hraw, List.map_set]
        have hb2 : enc φ o = head o :: o.fields.map (word φ) := by unfold enc body; simp [hraw]
        rw [hb]
        rw [hb2] at h3
        by_cases e2 : φ i + 1 + c = φ i + d
        · rw [e2, List.getElem?_set_self (by omega)]
          have e3 : d = c + 1 := by omega
          subst e3
          rw [List.getElem?_cons_succ, List.getElem?_set_self (by simpa using hc)]
        · rw [List.getElem?_set_ne e2, h3]
          cases d with
          | zero => rfl
          | succ d => rw [List.getElem?_cons_succ, List.getElem?_cons_succ, List.getElem?_set_ne (by omega)]
      · rw [if_neg e] at hqp
        subst hqp
        have hdis := h.apart i j o q hi (hs j hj) e ho hp
        rw [List.getElem?_set_ne (by omega)]
        exact h3
    · rw [if_neg hd, List.getElem?_eq_none (by rw [length_enc]; omega)]
  · intro j k q p hj hk hne hq hp
    obtain ⟨q', hq', hqs, _⟩ := hobj j q hq
    obtain ⟨p', hp', hps, _⟩ := hobj k p hp
    rw [hqs, hps]
    exact h.apart j k q' p' (hs j hj) (hs k hk) hne hq' hp'
end
end Go.Proofs.Ytlbiapgikkjooaa.Hp
