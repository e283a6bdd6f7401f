/- A heap in which objects lie in a chain, or a ring. No program in sight. -/
import Derived.Test.YtlbiapgikkjooaaMine
namespace Go.Proofs.Ytlbiapgikkjooaa.Hp

def obj (n : Nat) : Ref := ⟨true, (n : Int)⟩
theorem obj_ix (n : Nat) : (obj n).ix = n := by unfold obj Ref.ix; simp
theorem names_obj {n j : Nat} (h : Names (obj n) j) : n = j := by have := h.2; unfold obj at this; simp only at this; omega
theorem obj_names (n : Nat) : Names (obj n) n := ⟨rfl, rfl⟩

/-- Nothing is on the stack, nothing is pinned. -/
structure Bare (A : AH) (lim : Nat) : Prop where
  lim : A.limit = lim
  st : A.stack = []
  pn : ∀ q, A.pins q = none

/-- The objects b .. b + k - 1 lie in a chain: the last one is on the stack, each names the one ahead of it, the first one has x. -/
structure Chain (A : AH) (lim b k : Nat) (x : Ref) (pn : Bool) : Prop where
  lim : A.limit = lim
  pos : 0 < k
  st : A.stack = [obj (b + k - 1)]
  ln : A.objs.length = b + k
  ob : ∀ j, j < k → A.objs[b + j]? = some ⟨1, false, [if j = 0 then x else obj (b + j - 1)], []⟩
  pn : ∀ q, A.pins q = if q = 7 ∧ pn = true then some (obj b) else none

theorem bare_empty (n : Nat) : Bare (AH.empty n) n := ⟨rfl, rfl, fun _ => rfl⟩

section
variable {A : AH} {lim b k : Nat} {x : Ref} {pn : Bool}
theorem Bare.live (h : Bare A lim) (hwf : A.Wf) : A.live = 0 := live_none hwf fun r hr => by
  rcases hr with hr | ⟨q, hq⟩
  · rw [h.st] at hr; cases hr
  · rw [h.pn] at hq; cases hq
theorem Bare.push_live (h : Bare A lim) {r : Ref} (hr : r.obj = false) (hwf : (A.push r).Wf) : (A.push r).live = 0 := live_none hwf fun s hs => by
  rcases hs with hs | ⟨q, hq⟩
  · simp only [AH.push] at hs
    rw [h.st, List.nil_append, List.mem_singleton] at hs
    rw [hs]; exact hr
  · simp only [AH.push] at hq
    rw [h.pn] at hq; cases hq
theorem Bare.first (h : Bare A lim) (r : Ref) : Chain ((A.push r).make 1 1) lim A.objs.length 1 r false := by
  have e : (A.push r).stack = [r] := by simp [AH.push, h.st]
  refine ⟨h.lim, by omega, ?_, ?_, fun j hj => ?_, fun q => ?_⟩
  · simp only [AH.make, AH.add]
    rw [e]; rfl
  · simp [AH.make, AH.add, AH.push]
  · obtain rfl : j = 0 := by omega
    simp only [AH.make, AH.add]
    rw [e]
    simp [AH.push]
  · simp only [AH.make, AH.add, AH.push]
    rw [h.pn]; simp
theorem Chain.pin (h : Chain A lim b 1 x false) : Chain (A.pin 7 (obj b)) lim b 1 x true := by
  refine ⟨h.lim, h.pos, h.st, h.ln, h.ob, fun q => ?_⟩
  simp only [AH.pin]
  by_cases e : q = 7
  · rw [if_pos e]; simp [e]
  · rw [if_neg e, if_neg (fun h => e h.1), h.pn, if_neg (by simp)]
theorem Chain.unpin (h : Chain A lim b k x pn) : Chain (A.unpin 7) lim b k x false := by
  refine ⟨h.lim, h.pos, h.st, h.ln, h.ob, fun q => ?_⟩
  simp only [AH.unpin]
  by_cases e : q = 7
  · rw [if_pos e, if_neg (by simp)]
  · rw [if_neg e, h.pn, if_neg (fun h => e h.1), if_neg (fun h => e h.1)]
theorem Chain.make (h : Chain A lim b k x pn) : Chain (A.make 1 1) lim b (k + 1) x pn := by
  refine ⟨h.lim, by omega, ?_, ?_, fun j hj => ?_, h.pn⟩
  · simp only [AH.make, AH.add]
    rw [h.st, h.ln]; simp [obj]
  · simp [AH.make, AH.add, h.ln]; omega
  · simp only [AH.make, AH.add]
    rw [h.st]
    by_cases e : j < k
    · rw [List.getElem?_append_left (by rw [h.ln]; omega)]; exact h.ob j e
    · obtain rfl : j = k := by omega
      rw [List.getElem?_append_right (by rw [h.ln]; omega), h.ln, Nat.sub_self, if_neg (by have := h.pos; omega)]; rfl
theorem Chain.fields (h : Chain A lim b k x pn) {j : Nat} (hj : j < k) : A.fields (obj (b + j)) = [if j = 0 then x else obj (b + j - 1)] := by
  unfold AH.fields
  rw [if_pos (show (obj (b + j)).obj = true from rfl), obj_ix, h.ob j hj]; rfl
theorem Chain.field (h : Chain A lim b k x pn) {j : Nat} (hj : j < k) : A.fieldI (obj (b + j)) 0 = if j = 0 then x else obj (b + j - 1) := by
  unfold AH.fieldI AH.field
  rw [if_pos (by omega), h.fields hj]; rfl
theorem Chain.top (h : Chain A lim b k x pn) : A.topI 0 = obj (b + k - 1) := by
  unfold AH.topI AH.top
  rw [if_pos (by omega), h.st]; rfl
theorem Chain.set (h : Chain A lim b k x pn) : Chain (A.setI (obj b) 0 (obj (b + k - 1))) lim b k (obj (b + k - 1)) pn := by
  have e : A.setI (obj b) 0 (obj (b + k - 1)) = A.setField b 0 (obj (b + k - 1)) := by
    unfold AH.setI
    rw [if_pos ⟨rfl, by omega, by unfold AH.sizeOf; have := h.fields (j := 0) h.pos; rw [Nat.add_zero] at this; rw [this]; simp⟩, obj_ix]; rfl
  rw [e]
  refine ⟨h.lim, h.pos, h.st, by simp [AH.setField, h.ln], fun j hj => ?_, h.pn⟩
  rw [objs_set, h.ob j hj]
  simp only [Option.map_some]
  by_cases e : j = 0
  · subst e; simp
  · rw [if_neg (by omega)]; simp [e]
theorem Chain.drop (h : Chain A lim b k x false) : Bare (A.drop 1) lim := by
  refine ⟨h.lim, ?_, fun q => by simp only [AH.drop]; rw [h.pn]; simp⟩
  simp only [AH.drop]; rw [h.st]; rfl
theorem Chain.reach (h : Chain A lim b k x pn) : ∀ d, d < k → A.Reach (b + k - 1 - d) := by
  intro d
  induction d with
  | zero => intro _; rw [Nat.sub_zero]; exact .root (.inl (by rw [h.st]; exact List.mem_singleton.2 rfl)) (obj_names _)
  | succ d ih =>
    intro hd
    have h1 := ih (by omega)
    refine h1.edge (r := obj (b + k - 1 - (d + 1))) ?_ (obj_names _)
    have h2 := h.ob (k - 1 - d) (by omega)
    rw [if_neg (by omega)] at h2
    exact ⟨_, by rw [show b + k - 1 - d = b + (k - 1 - d) by omega]; exact h2, rfl, by show obj _ ∈ [obj _]; rw [List.mem_singleton]; congr 1; omega⟩
theorem Chain.live (h : Chain A lim b k x pn) (hx : x.obj = false ∨ x = obj (b + k - 1)) (hwf : A.Wf) : A.live = 2 * k := by
  rw [live_of hwf (List.range' b k) List.nodup_range' (fun i hi => ?_) (fun r j hr hn => ?_) (fun i r j hi he hn => ?_)]
  · have key : ∀ n c, (∀ i, c ≤ i → i < c + n → sizeAt A i = 2) → total A (List.range' c n) = 2 * n := by
      intro n
      induction n with
      | zero => intro c _; rfl
      | succ n ih =>
        intro c hs
        rw [List.range'_succ, total_cons, hs c (by omega) (by omega), ih (c + 1) (fun i h1 h2 => hs i (by omega) (by omega))]; omega
    refine key k b fun i h1 h2 => ?_
    have := h.ob (i - b) (by omega)
    rw [show b + (i - b) = i by omega] at this
    unfold sizeAt; rw [this]; rfl
  · rw [List.mem_range'_1] at hi
    have := h.reach (b + k - 1 - i) (by omega)
    rwa [show b + k - 1 - (b + k - 1 - i) = i by omega] at this
  · rw [List.mem_range'_1]
    rcases hr with hr | ⟨q, hq⟩
    · rw [h.st, List.mem_singleton] at hr
      subst hr
      have := names_obj hn
      have := h.pos
      omega
    · rw [h.pn] at hq
      split at hq
      · cases hq
        have := names_obj hn
        have := h.pos
        omega
      · cases hq
  · rw [List.mem_range'_1] at hi ⊢
    obtain ⟨o, h1, h2, h3⟩ := he
    have := h.ob (i - b) (by omega)
    rw [show b + (i - b) = i by omega] at this
    rw [this] at h1; cases h1
    rw [List.mem_singleton] at h3
    subst h3
    have hp := h.pos
    by_cases e : i - b = 0
    · rw [if_pos e] at hn
      rcases hx with hx | hx
      · rw [hn.1] at hx; cases hx
      · rw [hx] at hn
        have := names_obj hn
        omega
    · rw [if_neg e] at hn
      have := names_obj hn
      omega
theorem Chain.ok (h : Chain A lim b k x pn) {j : Nat} (hj : j < k) : A.Ok (obj (b + j)) := by
  have := h.reach (k - 1 - j) (by omega)
  rw [show b + k - 1 - (k - 1 - j) = b + j by omega] at this
  unfold AH.Ok
  rw [if_pos (show (obj (b + j)).obj = true from rfl)]
  exact ⟨b + j, rfl, this⟩
end
end Go.Proofs.Ytlbiapgikkjooaa.Hp
