/- What cleaning a heap does, step by step: the invariant of the copying, and its end; no program in sight. -/
import Derived.Test.YtlbiapgikkjooaaHeapClean
namespace Go.Proofs.Ytlbiapgikkjooaa.Hp
set_option linter.unusedSimpArgs false
set_option linter.unusedVariables false
set_option linter.unusedSectionVars false

/-- What has been copied: the objects of 'order', one behind the other; the fields ahead of cell p name the copies, the others the originals. -/
structure CInv (A : AH) (φ : Nat → Nat) (order : List Nat) (p : Nat) (to : List Int) : Prop where
  nodup : order.Nodup
  reach : ∀ i ∈ order, A.Reach i
  len : to.length = total A order
  head : ∀ i ∈ order, ∀ o, A.objs[i]? = some o → to[offs A order i]? = some (head o)
  raw : ∀ i ∈ order, ∀ o, A.objs[i]? = some o → o.raw = true → ∀ c x, (body φ o)[c]? = some x → to[offs A order i + 1 + c]? = some x
  field : ∀ i ∈ order, ∀ o, A.objs[i]? = some o → o.raw = false → ∀ c r, o.fields[c]? = some r →
    to[offs A order i + 1 + c]? = some (if offs A order i + 1 + c < p then word (offs A order) r else word φ r)
  closed : ∀ i ∈ order, ∀ o, A.objs[i]? = some o → o.raw = false → ∀ c r, o.fields[c]? = some r → r.obj = true → offs A order i + 1 + c < p → r.ix ∈ order

/-- What is known of where the copies stand. -/
def There (A : AH) (φ : Nat → Nat) (order : List Nat) (th : Int → Option Int) : Prop :=
  ∀ a b : Int, th a = some b ↔ ∃ i ∈ order, a = φ i ∧ b = offs A order i

/-- How many cells stand behind a head. -/
def needOf (h : Int) : Nat := if h / 1024 % 2 = 1 then ((h / 2048 + 7) / 8).toNat else (h / 2048).toNat

theorem need_head (o : Ob) (hk : o.kind ≤ 1000) : needOf (head o) + 1 = o.size := by
  unfold needOf head Ob.size
  cases o.raw
  · simp only [Bool.false_eq_true, if_false]
    rw [if_neg (by omega)]
    omega
  · simp only [if_true]
    rw [if_pos (by omega)]
    omega

theorem cinv_start (A : AH) (φ : Nat → Nat) : CInv A φ [] 0 [] :=
  ⟨List.nodup_nil, by simp, rfl, by simp, by simp, by simp, by simp⟩
theorem there_start (A : AH) (φ : Nat → Nat) : There A φ [] (fun _ => none) := fun a b => by simp

/-- One word, when its object was moved: the word, the cells, where the copies stand. -/
def moveW (w : Int) (to : List Int) (th : Int → Option Int) : Int := if w % 2 = 1 then w else 2 * ((th (w / 2)).getD to.length)
def moveTo (src : List Int) (w : Int) (to : List Int) (th : Int → Option Int) : List Int :=
  if w % 2 = 1 then to else match th (w / 2) with
    | some _ => to
    | none => to ++ (src.drop (w / 2).toNat).take (1 + needOf (src.getD (w / 2).toNat 0))
def moveTh (w : Int) (to : List Int) (th : Int → Option Int) : Int → Option Int :=
  if w % 2 = 1 then th else match th (w / 2) with
    | some _ => th
    | none => fun a => if a = w / 2 then some to.length else th a

section
variable {A : AH} {φ : Nat → Nat} {cells stack : List Int} {pins : Int → Option Int}

theorem word_imm {r : Ref} (φ : Nat → Nat) (h : r.obj = false) : word φ r % 2 = 1 := by unfold word; rw [h]; simp
theorem word_obj {r : Ref} (φ : Nat → Nat) (h : r.obj = true) : word φ r = 2 * (φ r.ix : Int) := by unfold word; rw [h]; simp
theorem word_even {r : Ref} (φ : Nat → Nat) (h : r.obj = true) : ¬ word φ r % 2 = 1 ∧ word φ r / 2 = φ r.ix := by rw [word_obj φ h]; omega
theorem word_same {r : Ref} (φ ψ : Nat → Nat) (h : r.obj = true → φ r.ix = ψ r.ix) : word φ r = word ψ r := by
  unfold word
  cases hb : r.obj
  · rfl
  · rw [h hb]

theorem ok_obj {r : Ref} (h : A.Ok r) (ho : r.obj = true) : A.Reach r.ix := by
  unfold AH.Ok at h
  rw [if_pos ho] at h
  obtain ⟨i, hi, hr⟩ := h
  unfold Ref.ix
  rw [hi]; simpa using hr

/-- A further object is copied. -/
theorem CInv.grow {order : List Nat} {p : Nat} {to : List Int} (h : CInv A φ order p to) (hrep : Rep A φ cells stack pins) (hp : p ≤ to.length) {i : Nat} (hi : A.Reach i) (hn : i ∉ order) {o : Ob} (ho : A.objs[i]? = some o) :
    CInv A φ (order ++ [i]) p (to ++ enc φ o) := by
  have hs : sizeAt A i = o.size := by simp [sizeAt, ho]
  have hoffs : ∀ j ∈ order, offs A (order ++ [i]) j = offs A order j := fun j hj => offs_append A order [i] j hj
  have hnew : offs A (order ++ [i]) i = total A order := offs_new A order [] i hn
  have hold : ∀ c x, to[c]? = some x → (to ++ enc φ o)[c]? = some x := fun c x hx => by
    rw [List.getElem?_append_left (List.getElem?_eq_some_iff.1 hx).1]; exact hx
  have hnw : ∀ c, (to ++ enc φ o)[total A order + c]? = (enc φ o)[c]? := fun c => by
    rw [← h.len, List.getElem?_append_right (by omega)]; congr 1; omega
  refine ⟨?_, ?_, ?_, ?_, ?_, ?_, ?_⟩
  · rw [List.nodup_append]
    exact ⟨h.nodup, by simp, fun a ha b hb e => by rw [List.mem_singleton] at hb; exact hn (hb ▸ e ▸ ha)⟩
  · intro j hj
    rcases List.mem_append.1 hj with hj | hj
    · exact h.reach j hj
    · rw [List.mem_singleton] at hj; exact hj ▸ hi
  · rw [List.length_append, h.len, total_append, total_one, length_enc, hs]
  · intro j hj q hq
    rcases List.mem_append.1 hj with hj | hj
    · rw [hoffs j hj]; exact hold _ _ (h.head j hj q hq)
    · rw [List.mem_singleton] at hj; subst hj
      rw [ho] at hq; cases hq
      rw [hnew]; exact (hnw 0).trans rfl
  · intro j hj q hq hr c x hx
    rcases List.mem_append.1 hj with hj | hj
    · rw [hoffs j hj]; exact hold _ _ (h.raw j hj q hq hr c x hx)
    · rw [List.mem_singleton] at hj; subst hj
      rw [ho] at hq; cases hq
      rw [hnew, Nat.add_assoc, hnw, Nat.add_comm]
      exact hx
  · intro j hj q hq hr c r hx
    rcases List.mem_append.1 hj with hj | hj
    · rw [hoffs j hj]
      refine hold _ _ ((h.field j hj q hq hr c r hx).trans ?_)
      congr 1
      by_cases hlt : offs A order j + 1 + c < p
      · rw [if_pos hlt, if_pos hlt]
        exact word_same _ _ fun hob => (hoffs _ (h.closed j hj q hq hr c r hx hob hlt)).symm
      · rw [if_neg hlt, if_neg hlt]
    · rw [List.mem_singleton] at hj; subst hj
      rw [ho] at hq; cases hq
      rw [hnew, if_neg (by rw [h.len] at hp; omega), Nat.add_assoc, hnw, Nat.add_comm]
      show (body φ o)[c]? = _
      unfold body
      rw [hr]
      simp [hx]
  · intro j hj q hq hr c r hx hob hlt
    rcases List.mem_append.1 hj with hj | hj
    · rw [hoffs j hj] at hlt
      exact List.mem_append_left _ (h.closed j hj q hq hr c r hx hob hlt)
    · rw [List.mem_singleton] at hj; subst hj
      rw [hnew] at hlt
      rw [h.len] at hp
      omega

/-- A word that can be come to, moved. -/
theorem move_ok (hrep : Rep A φ cells stack pins) {order : List Nat} {p : Nat} {to : List Int} {th : Int → Option Int} (h : CInv A φ order p to) (ht : There A φ order th) (hp : p ≤ to.length)
    {r : Ref} (hr : A.Ok r) : ∃ ext : List Nat, CInv A φ (order ++ ext) p (moveTo cells (word φ r) to th) ∧ There A φ (order ++ ext) (moveTh (word φ r) to th) ∧
      moveW (word φ r) to th = word (offs A (order ++ ext)) r ∧ (r.obj = true → r.ix ∈ order ++ ext) ∧ to.length ≤ (moveTo cells (word φ r) to th).length := by
  cases hob : r.obj
  · have hw := word_imm φ hob
    refine ⟨[], ?_, ?_, ?_, by simp, ?_⟩
    · unfold moveTo; rw [if_pos hw, List.append_nil]; exact h
    · unfold moveTh; rw [if_pos hw, List.append_nil]; exact ht
    · unfold moveW; rw [if_pos hw]; exact word_same _ _ (fun e => by rw [hob] at e; cases e)
    · unfold moveTo; rw [if_pos hw]; exact Nat.le_refl _
  · obtain ⟨hw, hw2⟩ := word_even φ hob
    have hi := ok_obj hr hob
    cases hth : th (word φ r / 2) with
    | some b =>
      obtain ⟨i, hio, ha, hb⟩ := (ht _ _).1 hth
      have e : i = r.ix := hrep.inj (h.reach i hio) hi (by omega)
      subst e
      refine ⟨[], ?_, ?_, ?_, fun _ => by simpa using hio, ?_⟩
      · unfold moveTo; rw [if_neg hw, hth, List.append_nil]; exact h
      · unfold moveTh; rw [if_neg hw, hth, List.append_nil]; exact ht
      · unfold moveW; rw [if_neg hw, hth, word_obj _ hob, List.append_nil, hb]; rfl
      · unfold moveTo; rw [if_neg hw, hth]; exact Nat.le_refl _
    | none =>
      have hn : r.ix ∉ order := fun hm => by
        have := (ht (word φ r / 2) (offs A order r.ix)).2 ⟨r.ix, hm, hw2, rfl⟩
        rw [hth] at this; cases this
      have hl := hrep.wf.there _ hi
      have ho : A.objs[r.ix]? = some A.objs[r.ix] := List.getElem?_eq_getElem hl
      obtain ⟨hh, _⟩ := hrep.obj _ _ hi ho
      have hsz : (cells.drop (word φ r / 2).toNat).take (1 + needOf (cells.getD (word φ r / 2).toNat 0)) = enc φ A.objs[r.ix] := by
        rw [hw2, Int.toNat_natCast]
        have hhd : cells.getD (φ r.ix) 0 = head A.objs[r.ix] := by
          have e0 := congrArg (fun l : List Int => l[0]?) hh
          have hpos : 0 < (enc φ A.objs[r.ix]).length := by unfold enc; simp
          simp only [List.getElem?_take, if_pos hpos, List.getElem?_drop, Nat.add_zero] at e0
          rw [List.getD_eq_getElem?_getD, e0]
          rfl
        rw [hhd, show 1 + needOf (head A.objs[r.ix]) = (enc φ A.objs[r.ix]).length from by rw [length_enc, ← need_head _ (hrep.wf.obj _ _ hi ho).1]; omega]
        exact hh
      refine ⟨[r.ix], ?_, ?_, ?_, fun _ => by simp, ?_⟩
      · unfold moveTo; rw [if_neg hw, hth]; dsimp only; rw [hsz]; exact h.grow hrep hp hi hn ho
      · unfold moveTh; rw [if_neg hw, hth]
        intro a b
        dsimp only
        by_cases e : a = word φ r / 2
        · rw [if_pos e]
          constructor
          · intro hb
            refine ⟨r.ix, by simp, by rw [e, hw2], ?_⟩
            rw [offs_new A order [] r.ix hn, ← h.len]; cases hb; rfl
          · rintro ⟨i, hio, ha, hb⟩
            have e2 : i = r.ix := by
              refine hrep.inj ?_ hi (by omega)
              rcases List.mem_append.1 hio with hio | hio
              · exact h.reach i hio
              · rw [List.mem_singleton] at hio; exact hio ▸ hi
            subst e2
            rw [offs_new A order [] r.ix hn, ← h.len] at hb
            rw [hb]
        · rw [if_neg e]
          constructor
          · intro hb
            obtain ⟨i, hio, ha, hb⟩ := (ht a b).1 hb
            exact ⟨i, List.mem_append_left _ hio, ha, by rw [offs_append A order _ i hio]; exact hb⟩
          · rintro ⟨i, hio, ha, hb⟩
            rcases List.mem_append.1 hio with hio | hio
            · exact (ht a b).2 ⟨i, hio, ha, by rw [offs_append A order _ i hio] at hb; exact hb⟩
            · rw [List.mem_singleton] at hio; subst hio
              exact absurd (ha.trans hw2.symm) e
      · unfold moveW; rw [if_neg hw, hth, word_obj _ hob, offs_new A order [] r.ix hn, ← h.len]; rfl
      · unfold moveTo; rw [if_neg hw, hth]; dsimp only; rw [List.length_append]; omega

/-- Cells that are no fields are passed by. -/
theorem CInv.skip {order : List Nat} {p q : Nat} {to : List Int} (h : CInv A φ order p to) (hq : p ≤ q)
    (hno : ∀ i ∈ order, ∀ o, A.objs[i]? = some o → o.raw = false → ∀ c r, o.fields[c]? = some r → ¬ (p ≤ offs A order i + 1 + c ∧ offs A order i + 1 + c < q)) : CInv A φ order q to := by
  refine ⟨h.nodup, h.reach, h.len, h.head, h.raw, ?_, ?_⟩
  · intro i hi o ho hr c r hx
    have := hno i hi o ho hr c r hx
    rw [h.field i hi o ho hr c r hx]
    by_cases hlt : offs A order i + 1 + c < p
    · rw [if_pos hlt, if_pos (by omega)]
    · rw [if_neg hlt, if_neg (by omega)]
  · intro i hi o ho hr c r hx hob hlt
    have := hno i hi o ho hr c r hx
    exact h.closed i hi o ho hr c r hx hob (by omega)

theorem field_lt {o : Ob} {i c : Nat} {r : Ref} (ho : A.objs[i]? = some o) (hr : o.raw = false) (hx : o.fields[c]? = some r) : 1 + c < sizeAt A i := by
  have := (List.getElem?_eq_some_iff.1 hx).1
  simp [sizeAt, ho, Ob.size, hr]; omega

/-- The head of object i. -/
theorem CInv.skipHead {order : List Nat} {to : List Int} {i : Nat} (hi : i ∈ order) (h : CInv A φ order (offs A order i) to) : CInv A φ order (offs A order i + 1) to := by
  refine h.skip (by omega) fun j hj o ho hr c r hx hc => ?_
  have h1 := field_lt ho hr hx
  by_cases e : i = j
  · subst e; omega
  · have := offs_apart A order i j hi hj e; omega
/-- All that stands behind the head of an object of bytes. -/
theorem CInv.skipRaw {order : List Nat} {to : List Int} {i : Nat} {o : Ob} (hi : i ∈ order) (ho : A.objs[i]? = some o) (hr : o.raw = true) (h : CInv A φ order (offs A order i) to) : CInv A φ order (offs A order i + sizeAt A i) to := by
  refine h.skip (by omega) fun j hj q hq hr' c r hx hc => ?_
  have h1 := field_lt hq hr' hx
  by_cases e : i = j
  · subst e; rw [ho] at hq; cases hq; rw [hr] at hr'; cases hr'
  · have := offs_apart A order i j hi hj e; omega

/-- The next field is turned to the copy. -/
theorem CInv.turn {order : List Nat} {to : List Int} {i c : Nat} {o : Ob} {r : Ref} (hi : i ∈ order) (ho : A.objs[i]? = some o) (hr : o.raw = false) (hx : o.fields[c]? = some r)
    (h : CInv A φ order (offs A order i + 1 + c) to) (hin : r.obj = true → r.ix ∈ order) : CInv A φ order (offs A order i + 1 + c + 1) (to.set (offs A order i + 1 + c) (word (offs A order) r)) := by
  have hne : ∀ j ∈ order, ∀ q, A.objs[j]? = some q → ∀ d, d < q.size → offs A order j + d = offs A order i + 1 + c → j = i ∧ d = 1 + c := by
    intro j hj q hq d hd e
    have h1 := field_lt ho hr hx
    have h2 : sizeAt A j = q.size := by simp [sizeAt, hq]
    by_cases e2 : i = j
    · subst e2; exact ⟨rfl, by omega⟩
    · have := offs_apart A order i j hi hj e2; omega
  refine ⟨h.nodup, h.reach, by rw [List.length_set]; exact h.len, ?_, ?_, ?_, ?_⟩
  · intro j hj q hq
    rw [List.getElem?_set_ne (by intro e; have := hne j hj q hq 0 (by unfold Ob.size; omega) (by omega); omega)]
    exact h.head j hj q hq
  · intro j hj q hq hr' d x hd
    rw [List.getElem?_set_ne]
    · exact h.raw j hj q hq hr' d x hd
    · intro e
      have hd' := (List.getElem?_eq_some_iff.1 hd).1
      have h2 := length_body φ q
      obtain ⟨rfl, _⟩ := hne j hj q hq (1 + d) (by omega) (by omega)
      rw [ho] at hq; cases hq; rw [hr] at hr'; cases hr'
  · intro j hj q hq hr' d s hd
    have hd2 := field_lt hq hr' hd
    have h2 : sizeAt A j = q.size := by simp [sizeAt, hq]
    by_cases e : offs A order i + 1 + c = offs A order j + 1 + d
    · obtain ⟨rfl, e2⟩ := hne j hj q hq (1 + d) (by omega) (by omega)
      have e3 : d = c := by omega
      subst e3
      rw [ho] at hq; cases hq
      rw [hx] at hd; cases hd
      have hlt : offs A order j + 1 + d < to.length := by
        have := offs_le A order j hj
        rw [h.len]; omega
      rw [List.getElem?_set_self hlt, if_pos (by omega)]
    · rw [List.getElem?_set_ne e, h.field j hj q hq hr' d s hd]
      by_cases hlt : offs A order j + 1 + d < offs A order i + 1 + c
      · rw [if_pos hlt, if_pos (by omega)]
      · rw [if_neg hlt, if_neg (by omega)]
  · intro j hj q hq hr' d s hd hob hlt
    by_cases e : offs A order j + 1 + d < offs A order i + 1 + c
    · exact h.closed j hj q hq hr' d s hd hob e
    · have hd2 := field_lt hq hr' hd
      have h2 : sizeAt A j = q.size := by simp [sizeAt, hq]
      obtain ⟨rfl, e2⟩ := hne j hj q hq (1 + d) (by omega) (by omega)
      have e3 : d = c := by omega
      subst e3
      rw [ho] at hq; cases hq
      rw [hx] at hd; cases hd
      exact hin hob

/-- When all roots are moved and all cells passed, the copies are the heap. -/
theorem clean_done (hrep : Rep A φ cells stack pins) {order : List Nat} {to : List Int} (h : CInv A φ order to.length to)
    (hroots : ∀ r, A.Root r → r.obj = true → r.ix ∈ order) :
    Rep A (offs A order) to (A.stack.map (word (offs A order))) (fun k => (A.pins k).map (word (offs A order))) ∧ to.length = A.live := by
  have hall : ∀ i, i ∈ order ↔ A.Reach i := fun i => by
    refine ⟨h.reach i, fun hr => ?_⟩
    refine hr (· ∈ order) (fun r j hro hn => ?_) (fun i r j hio he hn => ?_)
    · have := hroots r hro hn.1
      rwa [show r.ix = j from by unfold Ref.ix; rw [hn.2]; rfl] at this
    · obtain ⟨o, ho, hraw, hm⟩ := he
      obtain ⟨c, hc⟩ := List.getElem?_of_mem hm
      have h1 := field_lt ho hraw hc
      have h2 := offs_le A order i hio
      have := h.closed i hio o ho hraw c r hc hn.1 (by rw [h.len]; omega)
      rwa [show r.ix = j from by unfold Ref.ix; rw [hn.2]; rfl] at this
  have hlive : A.live = total A order := live_eq A order h.nodup hrep.wf hall
  have hle := hrep.total_le order h.nodup h.reach
  refine ⟨⟨hrep.wf, ?_, ?_, rfl, fun _ => rfl, by rw [h.len]; exact Nat.le_trans hle hrep.room⟩, by rw [hlive, h.len]⟩
  · intro i o hi ho
    have hio := (hall i).2 hi
    have hs : sizeAt A i = o.size := by simp [sizeAt, ho]
    have h2 := offs_le A order i hio
    refine ⟨?_, by rw [h.len]; omega⟩
    unfold Holds
    apply List.ext_getElem?
    intro c
    rw [List.getElem?_take, List.getElem?_drop, length_enc]
    by_cases hc : c < o.size
    · rw [if_pos hc]
      unfold enc
      cases c with
      | zero => exact h.head i hio o ho
      | succ c =>
        rw [List.getElem?_cons_succ, show offs A order i + (c + 1) = offs A order i + 1 + c from by omega]
        have hlb := length_body (offs A order) o
        cases hraw : o.raw
        · have hb : (body (offs A order) o)[c]? = (o.fields[c]?).map (word (offs A order)) := by
            unfold body; rw [hraw]; simp
          have hlen : (body (offs A order) o).length = o.fields.length := by unfold body; rw [hraw]; simp
          have hx : o.fields[c]? = some (o.fields[c]'(by omega)) := List.getElem?_eq_getElem (by omega)
          rw [hb, hx, h.field i hio o ho hraw c _ hx, if_pos (by rw [h.len]; omega)]
          rfl
        · have hb : (body (offs A order) o) = body φ o := by unfold body; rw [hraw]; rfl
          rw [hb] at hlb ⊢
          have hx : (body φ o)[c]? = some ((body φ o)[c]'(by omega)) := List.getElem?_eq_getElem (by omega)
          rw [hx]
          exact h.raw i hio o ho hraw c _ hx
    · rw [if_neg hc, List.getElem?_eq_none (by rw [length_enc]; omega)]
  · intro i j o p hi hj hne ho hp
    have h1 := offs_apart A order i j ((hall i).2 hi) ((hall j).2 hj) hne
    simpa [sizeAt, ho, hp] using h1
end
end Go.Proofs.Ytlbiapgikkjooaa.Hp
