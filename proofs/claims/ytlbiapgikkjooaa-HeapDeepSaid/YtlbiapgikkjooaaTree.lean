/- A heap in which a tree of words and bytes lies. No program in sight. -/
import Derived.Test.YtlbiapgikkjooaaRing
namespace Go.Proofs.Ytlbiapgikkjooaa.Hp

open Classical in
/-- What is come to lies within a list that all names keep to: so much is live at most. -/
theorem live_le {A : AH} (hwf : A.Wf) (l : List Nat) (hn : l.Nodup) (h1 : ∀ r j, A.Root r → Names r j → j ∈ l) (h2 : ∀ i r j, i ∈ l → A.Edge i r → Names r j → j ∈ l) : A.live ≤ total A l := by
  have hsub : ∀ i, A.Reach i → i ∈ l := fun i h => h (· ∈ l) h1 h2
  rw [live_eq A (l.filter fun i => decide (A.Reach i)) (hn.filter _) hwf (fun i => by simpa using hsub i)]
  have key : ∀ l : List Nat, total A (l.filter fun i => decide (A.Reach i)) ≤ total A l := by
    intro l
    induction l with
    | nil => exact Nat.le_refl _
    | cons a l ih =>
      rw [total_cons, List.filter_cons]
      split
      · rw [total_cons]; omega
      · omega
  exact key l

structure TItem where
  k : Nat
  n : Int
  s : List UInt8
def TItem.size (i : TItem) : Nat := 4 + (i.s.length + 7) / 8
def weight (l : List TItem) : Nat := (l.map TItem.size).sum

/-- The items lie in the objects ds, their bytes in bs. -/
def Leaves (A : AH) : List TItem → List Nat → List Nat → Prop
  | [], [], [] => True
  | it :: l, d :: ds, b :: bs => A.objs[d]? = some ⟨it.k, false, [imm it.n, obj b], []⟩ ∧ A.objs[b]? = some ⟨1, true, [], it.s⟩ ∧ Leaves A l ds bs
  | _, _, _ => False

theorem Leaves.congr {A B : AH} : ∀ {l : List TItem} {ds bs : List Nat}, Leaves A l ds bs → (∀ (i : Nat) (o : Ob), A.objs[i]? = some o → B.objs[i]? = some o) → Leaves B l ds bs
  | [], [], [], _, _ => trivial
  | _ :: _, _ :: _, _ :: _, h, hc => ⟨hc _ _ h.1, hc _ _ h.2.1, h.2.2.congr hc⟩
theorem Leaves.len {A : AH} : ∀ {l : List TItem} {ds bs : List Nat}, Leaves A l ds bs → ds.length = l.length ∧ bs.length = l.length
  | [], [], [], _ => ⟨rfl, rfl⟩
  | _ :: _, _ :: _, _ :: _, h => by have := h.2.2.len; simp [this]
theorem Leaves.lt {A : AH} : ∀ {l : List TItem} {ds bs : List Nat}, Leaves A l ds bs → ∀ i ∈ ds ++ bs, i < A.objs.length
  | [], [], [], _, _, h => by cases h
  | _ :: _, _ :: _, _ :: _, h, i, hi => by
    have h1 := (List.getElem?_eq_some_iff.1 h.1).1
    have h2 := (List.getElem?_eq_some_iff.1 h.2.1).1
    rcases List.mem_append.1 hi with hi | hi
    · rcases List.mem_cons.1 hi with e | hi
      · subst e; exact h1
      · exact h.2.2.lt i (List.mem_append_left _ hi)
    · rcases List.mem_cons.1 hi with e | hi
      · subst e; exact h2
      · exact h.2.2.lt i (List.mem_append_right _ hi)
theorem Leaves.total {A : AH} : ∀ {l : List TItem} {ds bs : List Nat}, Leaves A l ds bs → total A (ds ++ bs) = weight l
  | [], [], [], _ => rfl
  | it :: l, d :: ds, b :: bs, h => by
    have ih := h.2.2.total
    rw [total_append] at ih ⊢
    rw [total_cons, total_cons, show sizeAt A d = 3 by unfold sizeAt; rw [h.1]; rfl, show sizeAt A b = 1 + (it.s.length + 7) / 8 by unfold sizeAt; rw [h.2.1]; rfl]
    unfold weight at ih ⊢
    rw [List.map_cons, List.sum_cons, ← ih]
    unfold TItem.size
    omega
theorem Leaves.edge {A : AH} : ∀ {l : List TItem} {ds bs : List Nat}, Leaves A l ds bs → ∀ i r j, i ∈ ds ++ bs → A.Edge i r → Names r j → j ∈ bs
  | [], [], [], _, _, _, _, h, _, _ => by cases h
  | it :: l, d :: ds, b :: bs, h, i, r, j, hi, he, hn => by
    obtain ⟨o, h1, h2, h3⟩ := he
    have hd : i = d → j ∈ b :: bs := fun e => by
      subst e
      rw [h.1] at h1; cases h1
      rcases List.mem_cons.1 h3 with e | h3
      · subst e; have := hn.1; cases this
      · rw [List.mem_singleton] at h3; subst h3
        rw [← names_obj hn]; exact List.mem_cons_self ..
    have hb : i ≠ b := fun e => by
      subst e
      rw [h.2.1] at h1; cases h1; cases h2
    rcases List.mem_append.1 hi with hi | hi
    · rcases List.mem_cons.1 hi with e | hi
      · exact hd e
      · exact List.mem_cons_of_mem _ (h.2.2.edge i r j (List.mem_append_left _ hi) ⟨o, h1, h2, h3⟩ hn)
    · rcases List.mem_cons.1 hi with e | hi
      · exact absurd e hb
      · exact List.mem_cons_of_mem _ (h.2.2.edge i r j (List.mem_append_right _ hi) ⟨o, h1, h2, h3⟩ hn)
theorem Leaves.reach {A : AH} : ∀ {l : List TItem} {ds bs : List Nat}, Leaves A l ds bs → (∀ d ∈ ds, A.Reach d) → ∀ b ∈ bs, A.Reach b
  | [], [], [], _, _, _, h => by cases h
  | it :: l, d :: ds, b :: bs, h, hr, i, hi => by
    rcases List.mem_cons.1 hi with e | hi
    · subst e
      exact (hr d (List.mem_cons_self ..)).edge ⟨_, h.1, rfl, List.mem_cons_of_mem _ (List.mem_singleton.2 rfl)⟩ (obj_names i)
    · exact h.2.2.reach (fun d hd => hr d (List.mem_cons_of_mem _ hd)) i hi
theorem Leaves.get {A : AH} : ∀ {l : List TItem} {ds bs : List Nat} {j : Nat} {it : TItem}, Leaves A l ds bs → l[j]? = some it → ∃ d b, ds[j]? = some d ∧ bs[j]? = some b ∧ A.objs[d]? = some ⟨it.k, false, [imm it.n, obj b], []⟩ ∧ A.objs[b]? = some ⟨1, true, [], it.s⟩
  | [], [], [], _, _, _, h => by cases h
  | _ :: _, d :: ds, b :: bs, 0, it, h, hj => by
    rw [List.getElem?_cons_zero] at hj; cases hj
    exact ⟨d, b, rfl, rfl, h.1, h.2.1⟩
  | _ :: _, d :: ds, b :: bs, j + 1, it, h, hj => by
    rw [List.getElem?_cons_succ] at hj
    obtain ⟨d', b', h1, h2, h3⟩ := h.2.2.get hj
    exact ⟨d', b', h1, h2, h3⟩
theorem Leaves.snoc {A : AH} : ∀ {l : List TItem} {ds bs : List Nat} {it : TItem} {d b : Nat}, Leaves A l ds bs → A.objs[d]? = some ⟨it.k, false, [imm it.n, obj b], []⟩ → A.objs[b]? = some ⟨1, true, [], it.s⟩ → Leaves A (l ++ [it]) (ds ++ [d]) (bs ++ [b])
  | [], [], [], _, _, _, _, h1, h2 => ⟨h1, h2, trivial⟩
  | _ :: _, _ :: _, _ :: _, _, _, _, h, h1, h2 => ⟨h.1, h.2.1, h.2.2.snoc h1 h2⟩

def objs (l : List Nat) : List Ref := l.map obj
theorem names_objs {l : List Nat} {r : Ref} {j : Nat} (h : r ∈ objs l) (hn : Names r j) : j ∈ l := by
  obtain ⟨i, hi, rfl⟩ := List.mem_map.1 h
  rw [← names_obj hn]; exact hi

/-- While the items are made: the stack, their objects, and behind them some words. -/
structure Build (A : AH) (lim : Nat) (l : List TItem) (ds bs : List Nat) (rest : List Ref) : Prop where
  lim : A.limit = lim
  st : A.stack = objs ds ++ rest
  lv : Leaves A l ds bs
  nd : (ds ++ bs).Nodup
  pn : ∀ q, A.pins q = none

section
variable {A : AH} {lim : Nat} {l : List TItem} {ds bs : List Nat} {rest : List Ref}
theorem build_start (n : Nat) : Build (AH.empty n) n [] [] [] [] := ⟨rfl, rfl, trivial, List.nodup_nil, fun _ => rfl⟩
theorem Build.len (h : Build A lim l ds bs rest) : A.stack.length = l.length + rest.length := by rw [h.st, List.length_append]; simp [objs, h.lv.len.1]
theorem Build.push (h : Build A lim l ds bs rest) (r : Ref) : Build (A.push r) lim l ds bs (rest ++ [r]) :=
  ⟨h.lim, by simp only [AH.push]; rw [h.st, List.append_assoc], h.lv.congr fun _ _ h => h, h.nd, h.pn⟩
theorem Build.live_le (h : Build A lim l ds bs rest) (hr : ∀ r ∈ rest, r.obj = false) (hwf : A.Wf) : A.live ≤ weight l := by
  rw [← h.lv.total]
  refine Hp.live_le hwf (ds ++ bs) h.nd (fun r j hro hn => ?_) (fun i r j hi he hn => List.mem_append_right _ (h.lv.edge i r j hi he hn))
  rcases hro with hro | ⟨q, hq⟩
  · rw [h.st] at hro
    rcases List.mem_append.1 hro with hro | hro
    · exact List.mem_append_left _ (names_objs hro hn)
    · have := hr r hro; rw [hn.1] at this; cases this
  · rw [h.pn] at hq; cases hq
theorem Build.raw {n : Int} (h : Build A lim l ds bs [imm n]) (s : List UInt8) : Build (A.raw 1 s) lim l ds bs [imm n, obj A.objs.length] ∧ (A.raw 1 s).objs[A.objs.length]? = some ⟨1, true, [], s⟩ ∧ A.objs.length ∉ ds ++ bs ∧ (A.raw 1 s).objs.length = A.objs.length + 1 := by
  refine ⟨⟨h.lim, ?_, h.lv.congr fun i o ho => ?_, h.nd, h.pn⟩, ?_, fun hm => ?_, ?_⟩
  · simp only [AH.raw, AH.add]; rw [Nat.sub_zero, List.take_length, h.st, List.append_assoc]; rfl
  · simp only [AH.raw, AH.add]; rw [List.getElem?_append_left (List.getElem?_eq_some_iff.1 ho).1]; exact ho
  · simp only [AH.raw, AH.add]; rw [List.getElem?_append_right (Nat.le_refl _), Nat.sub_self]; rfl
  · have := h.lv.lt _ hm; omega
  · simp [AH.raw, AH.add]
theorem Build.live_le2 {n : Int} {b : Nat} {s : List UInt8} (h : Build A lim l ds bs [imm n, obj b]) (hb : A.objs[b]? = some ⟨1, true, [], s⟩) (hnb : b ∉ ds ++ bs) (hwf : A.Wf) : A.live ≤ weight l + (1 + (s.length + 7) / 8) := by
  have ht : total A (b :: (ds ++ bs)) = weight l + (1 + (s.length + 7) / 8) := by
    rw [total_cons, h.lv.total, show sizeAt A b = 1 + (s.length + 7) / 8 by unfold sizeAt; rw [hb]; rfl]; omega
  rw [← ht]
  refine Hp.live_le hwf _ (List.nodup_cons.2 ⟨hnb, h.nd⟩) (fun r j hro hn => ?_) (fun i r j hi he hn => ?_)
  · rcases hro with hro | ⟨q, hq⟩
    · rw [h.st] at hro
      rcases List.mem_append.1 hro with hro | hro
      · exact List.mem_cons_of_mem _ (List.mem_append_left _ (names_objs hro hn))
      · rcases List.mem_cons.1 hro with e | hro
        · subst e; have := hn.1; cases this
        · rw [List.mem_singleton] at hro; subst hro
          rw [← names_obj hn]; exact List.mem_cons_self ..
    · rw [h.pn] at hq; cases hq
  · rcases List.mem_cons.1 hi with e | hi
    · subst e
      obtain ⟨o, h1, h2, h3⟩ := he
      rw [hb] at h1; cases h1; cases h2
    · exact List.mem_cons_of_mem _ (List.mem_append_right _ (h.lv.edge i r j hi he hn))
theorem Build.make {n : Int} {b : Nat} {s : List UInt8} (h : Build A lim l ds bs [imm n, obj b]) (hb : A.objs[b]? = some ⟨1, true, [], s⟩) (hnb : b ∉ ds ++ bs) (k : Nat) : Build (A.make k 2) lim (l ++ [⟨k, n, s⟩]) (ds ++ [A.objs.length]) (bs ++ [b]) [] := by
  have e1 : A.stack.length = ds.length + 2 := by rw [h.st]; simp [objs]
  have e2 : A.stack.drop (A.stack.length - 2) = [imm n, obj b] := by
    rw [e1, Nat.add_sub_cancel, h.st, show ds.length = (objs ds).length by simp [objs], List.drop_left]
  have e3 : A.stack.take (A.stack.length - 2) = objs ds := by
    rw [e1, Nat.add_sub_cancel, h.st, show ds.length = (objs ds).length by simp [objs], List.take_left]
  have hbl := (List.getElem?_eq_some_iff.1 hb).1
  have hold : ∀ (i : Nat) (o : Ob), A.objs[i]? = some o → (A.make k 2).objs[i]? = some o := fun i o ho => by
    simp only [AH.make, AH.add]; rw [List.getElem?_append_left (List.getElem?_eq_some_iff.1 ho).1]; exact ho
  refine ⟨h.lim, ?_, (h.lv.congr hold).snoc ?_ (hold b _ hb), ?_, h.pn⟩
  · simp only [AH.make, AH.add]; rw [e3]; simp [objs, obj]
  · simp only [AH.make, AH.add]; rw [e2, List.getElem?_append_right (Nat.le_refl _), Nat.sub_self]; rfl
  · have hN : A.objs.length ∉ ds ++ bs := fun hm => by have := h.lv.lt _ hm; omega
    have hnd := h.nd
    rw [List.nodup_append] at hnd ⊢
    obtain ⟨n1, n2, n3⟩ := hnd
    rw [List.mem_append, not_or] at hN hnb
    refine ⟨?_, ?_, ?_⟩
    · rw [List.nodup_append]; exact ⟨n1, by simp, fun a ha c hc e => by rw [List.mem_singleton] at hc; subst e; subst hc; exact hN.1 ha⟩
    · rw [List.nodup_append]; exact ⟨n2, by simp, fun a ha c hc e => by rw [List.mem_singleton] at hc; subst e; subst hc; exact hnb.2 ha⟩
    · intro a ha c hc e
      subst e
      rcases List.mem_append.1 ha with ha | ha <;> rcases List.mem_append.1 hc with hc | hc
      · exact n3 a ha a hc rfl
      · rw [List.mem_singleton] at hc; subst hc; exact hnb.1 ha
      · rw [List.mem_singleton] at ha; subst ha; exact hN.2 hc
      · rw [List.mem_singleton] at ha hc; omega

/-- The tree: an object over all of the items, and on the stack behind it some words. -/
structure TreeIs (A : AH) (lim : Nat) (l : List TItem) (t : Nat) (ds bs : List Nat) (rest : List Ref) : Prop where
  lim : A.limit = lim
  st : A.stack = obj t :: rest
  tp : A.objs[t]? = some ⟨5, false, objs ds, []⟩
  lv : Leaves A l ds bs
  nd : (t :: (ds ++ bs)).Nodup
  pn : ∀ q, A.pins q = none

theorem Build.tree (h : Build A lim l ds bs []) : TreeIs (A.make 5 l.length) lim l A.objs.length ds bs [] := by
  have e1 : A.stack.length = l.length := h.len
  have e2 : A.stack.drop (A.stack.length - l.length) = objs ds := by rw [e1, Nat.sub_self, List.drop_zero, h.st, List.append_nil]
  refine ⟨h.lim, ?_, ?_, h.lv.congr fun i o ho => ?_, List.nodup_cons.2 ⟨fun hm => by have := h.lv.lt _ hm; omega, h.nd⟩, h.pn⟩
  · simp only [AH.make, AH.add]; rw [e1, Nat.sub_self]; rfl
  · simp only [AH.make, AH.add]; rw [e2, List.getElem?_append_right (Nat.le_refl _), Nat.sub_self]; rfl
  · simp only [AH.make, AH.add]; rw [List.getElem?_append_left (List.getElem?_eq_some_iff.1 ho).1]; exact ho

variable {t : Nat}
def treeLive (l : List TItem) : Nat := 1 + l.length + weight l
theorem TreeIs.total (h : TreeIs A lim l t ds bs rest) : total A (t :: (ds ++ bs)) = treeLive l := by
  rw [total_cons, h.lv.total, show sizeAt A t = 1 + l.length by unfold sizeAt; rw [h.tp]; simp [Ob.size, objs, h.lv.len.1]]; rfl
theorem TreeIs.edge (h : TreeIs A lim l t ds bs rest) : ∀ i r j, i ∈ t :: (ds ++ bs) → A.Edge i r → Names r j → j ∈ t :: (ds ++ bs) := fun i r j hi he hn => by
  rcases List.mem_cons.1 hi with e | hi
  · subst e
    obtain ⟨o, h1, h2, h3⟩ := he
    rw [h.tp] at h1; cases h1
    exact List.mem_cons_of_mem _ (List.mem_append_left _ (names_objs h3 hn))
  · exact List.mem_cons_of_mem _ (List.mem_append_right _ (h.lv.edge i r j hi he hn))
theorem TreeIs.reach (h : TreeIs A lim l t ds bs rest) : ∀ i ∈ t :: (ds ++ bs), A.Reach i := by
  have h0 : A.Reach t := .root (.inl (by rw [h.st]; exact List.mem_cons_self ..)) (obj_names t)
  have h1 : ∀ d ∈ ds, A.Reach d := fun d hd => h0.edge ⟨_, h.tp, rfl, List.mem_map.2 ⟨d, hd, rfl⟩⟩ (obj_names d)
  intro i hi
  rcases List.mem_cons.1 hi with e | hi
  · exact e ▸ h0
  · rcases List.mem_append.1 hi with hi | hi
    · exact h1 i hi
    · exact h.lv.reach h1 i hi
theorem TreeIs.live (h : TreeIs A lim l t ds bs []) (hwf : A.Wf) : A.live = treeLive l := by
  rw [← h.total]
  refine live_of hwf _ h.nd h.reach (fun r j hro hn => ?_) h.edge
  rcases hro with hro | ⟨q, hq⟩
  · rw [h.st, List.mem_singleton] at hro; subst hro
    rw [← names_obj hn]; exact List.mem_cons_self ..
  · rw [h.pn] at hq; cases hq
/-- With one object more that names no other than the tree. -/
theorem TreeIs.live_le (h : TreeIs A lim l t ds bs rest) {g : List Nat} (hg : ∀ i ∈ g, i ∉ t :: (ds ++ bs)) (hgn : g.Nodup) (hr : ∀ r ∈ rest, ∀ j, Names r j → j ∈ g ++ t :: (ds ++ bs)) (he : ∀ i ∈ g, ∀ r j, A.Edge i r → Names r j → j ∈ g ++ t :: (ds ++ bs)) (hwf : A.Wf) : A.live ≤ Hp.total A g + treeLive l := by
  rw [← h.total, ← total_append]
  refine Hp.live_le hwf _ (List.nodup_append.2 ⟨hgn, h.nd, fun a ha b hb e => hg a ha (e ▸ hb)⟩) (fun r j hro hn => ?_) (fun i r j hi he' hn => ?_)
  · rcases hro with hro | ⟨q, hq⟩
    · rw [h.st] at hro
      rcases List.mem_cons.1 hro with e | hro
      · subst e; rw [← names_obj hn]; exact List.mem_append_right _ (List.mem_cons_self ..)
      · exact hr r hro j hn
    · rw [h.pn] at hq; cases hq
  · rcases List.mem_append.1 hi with hi | hi
    · exact he i hi r j he' hn
    · exact List.mem_append_right _ (h.edge i r j hi he' hn)
theorem TreeIs.push (h : TreeIs A lim l t ds bs rest) (r : Ref) : TreeIs (A.push r) lim l t ds bs (rest ++ [r]) :=
  ⟨h.lim, by simp only [AH.push]; rw [h.st]; rfl, h.tp, h.lv.congr fun _ _ h => h, h.nd, h.pn⟩
theorem TreeIs.drop (h : TreeIs A lim l t ds bs rest) : TreeIs (A.drop rest.length) lim l t ds bs [] :=
  ⟨h.lim, by simp only [AH.drop]; rw [h.st, List.length_cons, Nat.add_sub_cancel_left]; rfl, h.tp, h.lv.congr fun _ _ h => h, h.nd, h.pn⟩
theorem TreeIs.make {n : Int} (h : TreeIs A lim l t ds bs [imm n, obj t]) (k : Nat) : TreeIs (A.make k 2) lim l t ds bs [obj A.objs.length] ∧ (A.make k 2).objs[A.objs.length]? = some ⟨k, false, [imm n, obj t], []⟩ ∧ A.objs.length ∉ t :: (ds ++ bs) := by
  have e1 : A.stack.length = 3 := by rw [h.st]; rfl
  have e2 : A.stack.drop (A.stack.length - 2) = [imm n, obj t] := by rw [e1, h.st]; rfl
  have e3 : A.stack.take (A.stack.length - 2) = [obj t] := by rw [e1, h.st]; rfl
  have hold : ∀ (i : Nat) (o : Ob), A.objs[i]? = some o → (A.make k 2).objs[i]? = some o := fun i o ho => by
    simp only [AH.make, AH.add]; rw [List.getElem?_append_left (List.getElem?_eq_some_iff.1 ho).1]; exact ho
  refine ⟨⟨h.lim, ?_, hold _ _ h.tp, h.lv.congr hold, h.nd, h.pn⟩, ?_, fun hm => ?_⟩
  · simp only [AH.make, AH.add]; rw [e3]; rfl
  · simp only [AH.make, AH.add]; rw [e2, List.getElem?_append_right (Nat.le_refl _), Nat.sub_self]; rfl
  · rcases List.mem_cons.1 hm with e | hm
    · have := (List.getElem?_eq_some_iff.1 h.tp).1; omega
    · have := h.lv.lt _ hm; omega
theorem TreeIs.raw (h : TreeIs A lim l t ds bs rest) (k : Nat) (s : List UInt8) : TreeIs (A.raw k s) lim l t ds bs (rest ++ [obj A.objs.length]) := by
  have hold : ∀ (i : Nat) (o : Ob), A.objs[i]? = some o → (A.raw k s).objs[i]? = some o := fun i o ho => by
    simp only [AH.raw, AH.add]; rw [List.getElem?_append_left (List.getElem?_eq_some_iff.1 ho).1]; exact ho
  refine ⟨h.lim, ?_, hold _ _ h.tp, h.lv.congr hold, h.nd, h.pn⟩
  simp only [AH.raw, AH.add]; rw [Nat.sub_zero, List.take_length, h.st]; rfl
end
end Go.Proofs.Ytlbiapgikkjooaa.Hp
