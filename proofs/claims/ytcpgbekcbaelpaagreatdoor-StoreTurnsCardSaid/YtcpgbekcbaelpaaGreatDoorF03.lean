/- Texts of the proof, in build order: Last, Last2. -/
import Derived.OrdersHeld
import Derived.Deep.RegionHeld3
set_option linter.unusedVariables false
set_option linter.unusedSimpArgs false
set_option linter.unusedSectionVars false
/- A region that draws its order, whose last operation waits for all others: the others in any order, then that one. Over any program. -/
namespace Go.Proofs.YtcpgbekcbaelpaaGreatDoor
open Go
set_option linter.unusedSectionVars false
set_option linter.unusedSimpArgs false
set_option linter.unusedVariables false

def lastQ (P : Program) (t : Oper) (Q : Exit → Act → World → Prop) : Exit → Act → World → Prop
  | .normal, a, w => Oper.wp P t a w (Q .normal) Q
  | e, a, w => Q e a w
def inLine (pre : Array Oper) : Bool := (List.range pre.size).all fun i => ((pre[i]?).map fun o => o.after.all (fun e => decide (e.on < i)) && (match o.guard with | some (g, _) => decide (g < pre.size) | none => true)).getD false
def waitsAll (md : Region.Mode) (pre : Array Oper) (t : Oper) : Bool := t.guard.isNone && t.after.all (fun e => decide (e.on < pre.size)) && (List.range pre.size).all fun j => t.after.any (fun e => e.on == j && Region.binds md e) ||
  (List.range pre.size).any fun k => decide (j < k) && ((pre[k]?).map fun o => o.after.any fun e => e.on == j && Region.binds md e).getD false
def Closed (md : Region.Mode) (pre : Array Oper) (l : Array Bool) : Prop := ∀ (i : Nat) o, pre[i]? = some o → l.getD i false = true → ∀ e ∈ o.after, Region.binds md e = true → l.getD e.on false = true
section
variable {P : Program} {pre : Array Oper} {t : Oper} {Q : Exit → Act → World → Prop} {md : Region.Mode}
theorem push_get (i : Nat) (hi : i < pre.size) : (pre.push t)[i]? = pre[i]? := by rw [Array.getElem?_push_lt hi, Array.getElem?_eq_getElem hi]
theorem push_listed (l : Array Bool) (k : Nat) : (l.push false).getD k false = l.getD k false := by
  simp only [Array.getD_eq_getD_getElem?, Array.getElem?_push]
  split
  · rename_i h; subst h; simp
  · rfl
theorem push_listed_t (l : Array Bool) (k : Nat) (hk : k < l.size) : (l.push false).getD k true = l.getD k true := by
  simp only [Array.getD_eq_getD_getElem?, Array.getElem?_push]
  rw [if_neg (by omega)]
theorem ready_mem {ops : Array Oper} {l : Array Bool} {i : Nat} : i ∈ Region.ready md ops l ↔ i < ops.size ∧ l.getD i true = false ∧ ∃ o, ops[i]? = some o ∧ ∀ e ∈ o.after, Region.binds md e = true → l.getD e.on false = true := by
  unfold Region.ready
  rw [List.mem_filter, List.mem_range]
  refine and_congr Iff.rfl ?_
  rw [Bool.and_eq_true]
  refine and_congr (by simp) ?_
  cases ops[i]? with
  | none => simp
  | some o =>
    simp only [Option.map_some, Option.getD_some, Array.all_eq_true_iff_forall_mem, Option.some.injEq, exists_eq_left']
    refine forall_congr' fun e => forall_congr' fun _ => ?_
    cases Region.binds md e <;> simp
theorem all_listed (hp : inLine pre = true) {l : Array Bool} (hl : l.size = pre.size) (hr : Region.ready md pre l = []) : ∀ i, i < pre.size → l.getD i true = true := by
  intro i
  induction i using Nat.strongRecOn with
  | ind i ih =>
    intro hi
    cases hb : l.getD i true with
    | true => rfl
    | false =>
      exfalso
      have hm : i ∈ Region.ready md pre l := by
        rw [ready_mem]
        refine ⟨hi, hb, pre[i], Array.getElem?_eq_getElem hi, fun e he _ => ?_⟩
        have := List.all_eq_true.1 hp i (List.mem_range.2 hi)
        rw [Array.getElem?_eq_getElem hi] at this
        simp only [Option.map_some, Option.getD_some, Bool.and_eq_true] at this
        have hlt : e.on < i := by simpa using Array.all_eq_true_iff_forall_mem.1 this.1 e he
        have h1 := ih e.on hlt (by omega)
        have hs : e.on < l.size := by omega
        simp only [Array.getD_eq_getD_getElem?, Array.getElem?_eq_getElem hs, Option.getD_some] at h1 ⊢
        exact h1
      rw [hr] at hm
      cases hm
theorem wpOp_pre {i : Nat} (hi : i < pre.size) (hp : inLine pre = true) {K K' : Act → World → Prop} {a : Act} {w : World} (hK : ∀ a w, K a w → K' a w) (h : wpOp P pre (lastQ P t Q) i K a w) : wpOp P (pre.push t) Q i K' a w := by
  unfold wpOp at *
  rw [push_get i hi]
  rw [Array.getElem?_eq_getElem hi] at h ⊢
  simp only at h ⊢
  have hy : Region.wanted pre[i] (yielded (pre.push t) a.tmps) = Region.wanted pre[i] (yielded pre a.tmps) := by
    have hg := List.all_eq_true.1 hp i (List.mem_range.2 hi)
    rw [Array.getElem?_eq_getElem hi] at hg
    simp only [Option.map_some, Option.getD_some, Bool.and_eq_true] at hg
    unfold Region.wanted
    cases hgd : pre[i].guard with
    | none => rfl
    | some gb =>
      obtain ⟨g, b⟩ := gb
      rw [hgd] at hg
      have : g < pre.size := by simpa using hg.2
      have e : yielded (pre.push t) a.tmps g = yielded pre a.tmps g := by unfold yielded; rw [push_get g this]
      simp only [e]
  rw [hy]
  split
  · rename_i hw
    rw [if_pos hw] at h
    have hout : LetsOut (lastQ P t Q) → LetsOut Q := fun ⟨a, w, h⟩ => ⟨a, w, h⟩
    rcases h with h | h
    · refine .inl ?_
      unfold Oper.wp at h ⊢
      generalize (execOp a.eval pre[i]).run P w = r at *
      cases r with
      | ok n w' =>
        cases n <;> simp only [Oper.upon] at h ⊢ <;>
          first
            | exact hK _ _ h
            | exact Calls.mono h (fun e w'' he => by cases e <;> first | exact hK _ _ he | exact hout he | exact he)
            | exact Rows.mono h (fun _ _ he => hK _ _ he)
      | halt x w' => cases x <;> simp only [Oper.upon] at h ⊢ <;> first | exact h | exact hout h
    · exact .inr ⟨h.1, hout h.2⟩
  · rename_i hw
    rw [if_neg hw] at h
    exact hK _ _ h
theorem all_of_last (ht : waitsAll md pre t = true) {l : Array Bool} (hc : Closed md pre l) (h : ∀ e ∈ t.after, Region.binds md e = true → l.getD e.on false = true) : ∀ j, j < pre.size → l.getD j false = true := by
  have key : ∀ d j, j + d = pre.size → 0 < d → l.getD j false = true := by
    intro d
    induction d using Nat.strongRecOn with
    | ind d ih =>
      intro j hj hd
      unfold waitsAll at ht
      simp only [Bool.and_eq_true] at ht
      have := List.all_eq_true.1 ht.2 j (List.mem_range.2 (by omega))
      rw [Bool.or_eq_true] at this
      rcases this with h1 | h1
      · obtain ⟨k, hk, hb⟩ := Array.any_eq_true.1 h1
        simp only [Bool.and_eq_true, beq_iff_eq] at hb
        rw [← hb.1]
        exact h _ (Array.getElem_mem hk) hb.2
      · obtain ⟨k, hk, hb⟩ := List.any_eq_true.1 h1
        rw [List.mem_range] at hk
        rw [Bool.and_eq_true, decide_eq_true_eq, Array.getElem?_eq_getElem hk] at hb
        simp only [Option.map_some, Option.getD_some] at hb
        obtain ⟨m, hm, hb2⟩ := Array.any_eq_true.1 hb.2
        simp only [Bool.and_eq_true, beq_iff_eq] at hb2
        rw [← hb2.1]
        exact hc k _ (Array.getElem?_eq_getElem hk) (ih (pre.size - k) (by omega) k (by omega) (by omega)) _ (Array.getElem_mem hm) hb2.2
  exact fun j hj => key (pre.size - j) j (by omega) (by omega)
theorem ready_push (ht : waitsAll md pre t = true) {l : Array Bool} (hc : Closed md pre l) (hl : l.size = pre.size) (hr : Region.ready md pre l ≠ []) : ∀ i, i ∈ Region.ready md (pre.push t) (l.push false) ↔ i ∈ Region.ready md pre l := by
  intro i
  rw [ready_mem, ready_mem, Array.size_push]
  obtain ⟨j, hj⟩ := List.exists_mem_of_ne_nil _ hr
  rw [ready_mem] at hj
  constructor
  · rintro ⟨h1, h2, o, h3, h4⟩
    by_cases hi : i < pre.size
    · rw [push_get i hi] at h3
      rw [push_listed_t l i (by omega)] at h2
      exact ⟨hi, h2, o, h3, fun e he hb => by rw [← push_listed]; exact h4 e he hb⟩
    · exfalso
      obtain rfl : i = pre.size := by omega
      rw [Array.getElem?_push_size] at h3
      cases h3
      have h5 := all_of_last ht hc (fun e he hb => by rw [← push_listed]; exact h4 e he hb) j hj.1
      have hs : j < l.size := by omega
      have h6 := hj.2.1
      simp only [Array.getD_eq_getD_getElem?, Array.getElem?_eq_getElem hs, Option.getD_some] at h5 h6
      rw [h5] at h6
      cases h6
  · rintro ⟨h1, h2, o, h3, h4⟩
    exact ⟨by omega, by rw [push_listed_t l i (by omega)]; exact h2, o, by rw [push_get i h1]; exact h3, fun e he hb => by rw [push_listed]; exact h4 e he hb⟩
theorem wpAny_end {ops : Array Oper} {l : Array Bool} {a : Act} {w : World} (hr : Region.ready md ops l = []) (h : Q .normal a w) : ∀ f, wpAny P md ops Q f l a w
  | 0 => ⟨hr, h⟩
  | f + 1 => ⟨fun _ => h, fun i hi => by rw [hr] at hi; cases hi⟩
theorem wpAny_last (hp : inLine pre = true) (ht : waitsAll md pre t = true) {l : Array Bool} (hl : l.size = pre.size) (hr : Region.ready md pre l = []) {a : Act} {w : World} (h : Oper.wp P t a w (Q .normal) Q) (f : Nat) : wpAny P md (pre.push t) Q (f + 1) (l.push false) a w := by
  have hall := all_listed hp hl hr
  unfold waitsAll at ht
  simp only [Bool.and_eq_true] at ht
  have hmem : ∀ i, i ∈ Region.ready md (pre.push t) (l.push false) ↔ i = pre.size := fun i => by
    rw [ready_mem, Array.size_push]
    constructor
    · rintro ⟨h1, h2, _⟩
      by_cases hi : i < pre.size
      · rw [push_listed_t l i (by omega), hall i hi] at h2
        cases h2
      · omega
    · rintro rfl
      refine ⟨by omega, ?_, t, Array.getElem?_push_size, fun e he hb => ?_⟩
      · rw [← hl]
        simp [Array.getD_eq_getD_getElem?]
      · rw [push_listed]
        have h1 : e.on < pre.size := by simpa using Array.all_eq_true_iff_forall_mem.1 ht.1.2 e he
        have h2 := hall e.on h1
        have hs : e.on < l.size := by omega
        simp only [Array.getD_eq_getD_getElem?, Array.getElem?_eq_getElem hs, Option.getD_some] at h2 ⊢
        exact h2
  refine ⟨fun hn => ?_, fun i hi => ?_⟩
  · have := (hmem pre.size).2 rfl
    rw [hn] at this
    cases this
  · obtain rfl := (hmem i).1 hi
    unfold wpOp
    rw [Array.getElem?_push_size]
    have hw : Region.wanted t (yielded (pre.push t) a.tmps) = true := by
      unfold Region.wanted
      have : t.guard = none := by simpa using ht.1.1
      rw [this]
    simp only [hw, if_true]
    refine .inl (Oper.wp_mono (fun a' w' hq => wpAny_end ?_ hq f) h)
    apply List.eq_nil_iff_forall_not_mem.2
    intro i hi
    rw [ready_mem, Array.size_push] at hi
    obtain ⟨h1, h2, _⟩ := hi
    by_cases he : i = pre.size
    · subst he
      rw [← hl] at h2
      simp [Array.getD_eq_getD_getElem?] at h2
    · have : ((l.push false).setIfInBounds pre.size true).getD i true = l.getD i true := by
        simp only [Array.getD_eq_getD_getElem?, Array.getElem?_setIfInBounds, Array.getElem?_push]
        rw [if_neg (fun e => he e.symm), if_neg (by omega)]
      rw [this, hall i (by omega)] at h2
      cases h2
theorem wpAny_push (hp : inLine pre = true) (ht : waitsAll md pre t = true) : ∀ (f : Nat) (l : Array Bool) (a : Act) (w : World), Closed md pre l → l.size = pre.size → wpAny P md pre (lastQ P t Q) f l a w → wpAny P md (pre.push t) Q (f + 1) (l.push false) a w
  | 0, l, a, w, hc, hl, h => wpAny_last hp ht hl h.1 h.2 0
  | f + 1, l, a, w, hc, hl, h => by
    by_cases hr : Region.ready md pre l = []
    · exact wpAny_last hp ht hl hr (h.1 hr) (f + 1)
    · have hm := ready_push ht hc hl hr
      refine ⟨fun hn => ?_, fun i hi => ?_⟩
      · obtain ⟨j, hj⟩ := List.exists_mem_of_ne_nil _ hr
        rw [← hm, hn] at hj
        cases hj
      · have hi' := (hm i).1 hi
        have hlt := (ready_mem.1 hi').1
        refine wpOp_pre hlt hp (fun a' w' hK => ?_) (h.2 i hi')
        have e : (l.push false).setIfInBounds i true = (l.setIfInBounds i true).push false := by
          apply Array.ext_getElem?
          intro k
          simp only [Array.getElem?_setIfInBounds, Array.getElem?_push, Array.size_setIfInBounds, Array.size_push]
          by_cases h1 : i = k
          · subst h1; simp [show i < l.size by omega, show i ≠ l.size by omega, show i < l.size + 1 by omega]
          · simp [h1]
        rw [e]
        refine wpAny_push hp ht f _ a' w' (fun k o ho hk e' he hb => ?_) (by rw [Array.size_setIfInBounds]; exact hl) hK
        have hget : ∀ m, (l.setIfInBounds i true).getD m false = true ↔ m = i ∨ l.getD m false = true := fun m => by
          simp only [Array.getD_eq_getD_getElem?, Array.getElem?_setIfInBounds]
          by_cases h1 : i = m
          · subst h1; simp [show i < l.size by omega]
          · simp [h1, show m ≠ i from fun e => h1 e.symm]
        rw [hget] at hk ⊢
        right
        rcases hk with rfl | hk
        · obtain ⟨_, _, o', ho', h4⟩ := ready_mem.1 hi'
          rw [ho] at ho'
          cases ho'
          exact h4 e' he hb
        · exact hc k o ho hk e' he hb
theorem wp_region_last {id : Nat} {ops : Array Oper} {S : World → Prop} {a : Act} {w : World} (hm : P.follows .mixedOrders = true) (ho : ops = pre.push t) (hp : inLine pre = true) (ht : waitsAll .any pre t = true) (hS : S w.drew)
    (h : S w.drew → wpAnyH P .any pre (lastQ P t Q) S pre.size (Array.replicate pre.size false) a w.drew) : (Code.region id ops true).wp P Q a w := by
  subst ho
  refine wp_region_any hm ?_
  rw [Array.size_push]
  have := wpAny_push hp ht pre.size (Array.replicate pre.size false) a w.drew (fun i o _ hi => by simp only [Array.getD_eq_getD_getElem?, Array.getElem?_replicate] at hi; split at hi <;> cases hi) (by simp) (wpAny_of_held _ _ _ _ (h hS))
  have e : Array.replicate (pre.size + 1) false = (Array.replicate pre.size false).push false := Array.replicate_succ
  rw [e]
  exact this
def butLast (o : Oper) : List Oper → List Oper
  | [] => []
  | x :: l => o :: butLast x l
def lastOf (o : Oper) : List Oper → Oper
  | [] => o
  | x :: l => lastOf x l
theorem butLast_lastOf : ∀ (o : Oper) (l : List Oper), butLast o l ++ [lastOf o l] = o :: l
  | o, [] => rfl
  | o, x :: l => by rw [butLast, lastOf, List.cons_append, butLast_lastOf x l]
theorem wp_region_lastL {id : Nat} {o : Oper} {l : List Oper} {pre : List Oper} {t : Oper} {S : World → Prop} {a : Act} {w : World} (hm : P.follows .mixedOrders = true) (h1 : butLast o l = pre) (h2 : lastOf o l = t) (hp : inLine pre.toArray = true) (ht : waitsAll .any pre.toArray t = true) (hS : S w.drew)
    (h : S w.drew → wpAnyH P .any pre.toArray (lastQ P t Q) S pre.toArray.size (Array.replicate pre.toArray.size false) a w.drew) : (Code.region id (o :: l).toArray true).wp P Q a w := by
  subst h1 h2
  refine wp_region_last hm ?_ hp ht hS h
  rw [List.push_toArray, butLast_lastOf]
end
end Go.Proofs.YtcpgbekcbaelpaaGreatDoor
/- A region that draws its order, whose last two operations wait for all that stand ahead. -/
namespace Go.Proofs.YtcpgbekcbaelpaaGreatDoor
set_option linter.unusedVariables false
section
variable {P : Program} {Q : Exit → Act → World → Prop} {pre : Array Oper} {t1 t2 : Oper}
theorem wp_region_last2 {id : Nat} {ops : Array Oper} {S : World → Prop} {a : Act} {w : World} (hm : P.follows .mixedOrders = true) (ho : ops = (pre.push t1).push t2) (hp : inLine pre = true) (hp1 : inLine (pre.push t1) = true) (ht1 : waitsAll .any pre t1 = true) (ht2 : waitsAll .any (pre.push t1) t2 = true) (hS : S w.drew)
    (h : S w.drew → wpAnyH P .any pre (lastQ P t1 (lastQ P t2 Q)) S pre.size (Array.replicate pre.size false) a w.drew) : (Code.region id ops true).wp P Q a w := by
  subst ho
  refine wp_region_any hm ?_
  rw [Array.size_push, Array.size_push]
  have no : ∀ (n : Nat) (i : Nat), (Array.replicate n false).getD i false = true → False := fun n i hi => by simp only [Array.getD_eq_getD_getElem?, Array.getElem?_replicate] at hi; split at hi <;> cases hi
  have h1 := wpAny_push hp ht1 pre.size (Array.replicate pre.size false) a w.drew (fun i o _ hi => (no _ _ hi).elim) (by simp) (wpAny_of_held _ _ _ _ (h hS))
  have e : ∀ n, Array.replicate (n + 1) false = (Array.replicate n false).push false := fun n => Array.replicate_succ
  rw [← e] at h1
  have h2 := wpAny_push hp1 ht2 (pre.size + 1) (Array.replicate (pre.size + 1) false) a w.drew (fun i o _ hi => (no _ _ hi).elim) (by simp) h1
  rw [← e] at h2
  exact h2
end
def but2 : List Oper → List Oper
  | [] => []
  | x :: l => match l with
    | _ :: _ :: _ => x :: but2 l
    | _ => []
def last1 : List Oper → Option Oper
  | [] => none
  | x :: l => match l with
    | _ :: _ :: _ => last1 l
    | [_] => some x
    | [] => none
theorem but2_eq : ∀ (l : List Oper) (x y : Oper) (t1 : Oper), last1 (x :: y :: l) = some t1 → but2 (x :: y :: l) ++ [t1, lastOf x (y :: l)] = x :: y :: l
  | [], x, y, t1, h => by cases h; rfl
  | z :: l, x, y, t1, h => by
    rw [last1] at h
    rw [but2, List.cons_append]
    congr 1
    exact but2_eq l y z t1 h
theorem wp_region_last2L {P : Program} {Q : Exit → Act → World → Prop} {id : Nat} {x y : Oper} {l : List Oper} {pre : List Oper} {t1 t2 : Oper} {S : World → Prop} {a : Act} {w : World} (hm : P.follows .mixedOrders = true) (h1 : but2 (x :: y :: l) = pre) (h2 : last1 (x :: y :: l) = some t1) (h3 : lastOf x (y :: l) = t2) (hp : inLine pre.toArray = true) (hp1 : inLine (pre.toArray.push t1) = true) (ht1 : waitsAll .any pre.toArray t1 = true) (ht2 : waitsAll .any (pre.toArray.push t1) t2 = true) (hS : S w.drew)
    (h : S w.drew → wpAnyH P .any pre.toArray (lastQ P t1 (lastQ P t2 Q)) S pre.toArray.size (Array.replicate pre.toArray.size false) a w.drew) : (Code.region id (x :: y :: l).toArray true).wp P Q a w := by
  subst h1 h3
  refine wp_region_last2 hm ?_ hp hp1 ht1 ht2 hS h
  rw [List.push_toArray, List.push_toArray, List.append_assoc]
  exact congrArg List.toArray (but2_eq l x y t1 h2).symm
end Go.Proofs.YtcpgbekcbaelpaaGreatDoor
