/- The calls of a heap that lies in blocks made since a world w0: what each does to the document's heap. -/
import Derived.Test.YtlbiapgikkjooaaHeapAt
import Derived.Test.YtlbiapgikkjooaaHeapLive
namespace Go.Proofs.Ytlbiapgikkjooaa
open Go.RowKit Go.Maps Hp
set_option linter.unusedSimpArgs false
set_option linter.unusedVariables false
set_option linter.unusedSectionVars false

/-- At p lies a heap all of whose blocks are N or later; below N all is as it was in w0. -/
def Mine (N : Nat) (w0 : World) (p : Nat) (A : AH) (φ : Nat → Nat) (m : Nat) (w : World) : Prop :=
  ∃ F, HeapAt w p F A φ m ∧ (∀ k ∈ F, N ≤ k) ∧ Below N w0 w ∧ N ≤ w.heap.size
def Mined (N : Nat) (w0 : World) (p : Nat) (A : AH) (φ : Nat → Nat) (m : Nat) (v : Value) (e : Ending) (w : World) : Prop :=
  e = .returned v ∧ Mine N w0 p A φ m w
def Mixed (N : Nat) (w0 : World) (p : Nat) (A : AH) (m : Nat) (v : Value) (e : Ending) (w : World) : Prop :=
  e = .returned v ∧ ∃ φ, Mine N w0 p A φ m w

namespace Hp
def AH.topI (A : AH) (i : Int) : Ref := if 0 ≤ i then A.top i.toNat else imm 0
def AH.fieldI (A : AH) (r : Ref) (i : Int) : Ref := if 0 ≤ i then A.field r i.toNat else imm 0
def AH.kindOf (A : AH) (r : Ref) : Int := if r.obj then ((A.objs[r.ix]?).map fun o => (o.kind : Int)).getD 0 else -1
def AH.sizeOf (A : AH) (r : Ref) : Nat := (A.fields r).length
def AH.setI (A : AH) (r : Ref) (i : Int) (x : Ref) : AH := if r.obj = true ∧ 0 ≤ i ∧ i < A.sizeOf r then A.setField r.ix i.toNat x else A

theorem word_imm' (φ : Nat → Nat) (n : Int) : word φ (imm n) = 2 * n + 1 := rfl
theorem word_obj' (φ : Nat → Nat) (i : Nat) : word φ ⟨true, i⟩ = 2 * φ i := rfl

theorem holds_get {cells l : List Int} {a k : Nat} {x : Int} (h : Holds cells a l) (hx : l[k]? = some x) : cells[a + k]? = some x := by
  unfold Holds at h
  have hk := (List.getElem?_eq_some_iff.1 hx).1
  rw [← h, List.getElem?_take_of_lt hk, List.getElem?_drop] at hx
  exact hx

section
variable {A : AH} {φ : Nat → Nat} {cells stack : List Int} {pins : Int → Option Int}
theorem topI_ok (h : A.Wf) (i : Int) : A.Ok (A.topI i) := by
  unfold AH.topI; split
  · exact h.ok_top _
  · exact ok_imm (by omega) (by omega)
theorem fieldI_ok (h : A.Wf) {r : Ref} (hr : A.Ok r) (i : Int) : A.Ok (A.fieldI r i) := by
  unfold AH.fieldI; split
  · exact h.ok_getField hr _
  · exact ok_imm (by omega) (by omega)

/-- The parts of an object that can be come to. -/
theorem Rep.parts (h : Rep A φ cells stack pins) {r : Ref} (hr : A.Ok r) (ho : r.obj = true) (hl : A.limit ≤ 4194304) : ∃ o, A.objs[r.ix]? = some o ∧ A.Reach r.ix ∧ cells[φ r.ix]? = some (head o) ∧ o.kind ≤ 1000 ∧ o.size ≤ 4194304 ∧
    (o.raw = true → o.fields = []) ∧ A.fields r = o.fields ∧ cells.length ≤ 4194304 ∧ φ r.ix + o.size ≤ cells.length ∧ (o.raw = false → ∀ (k : Nat) (s : Ref), o.fields[k]? = some s → cells[φ r.ix + 1 + k]? = some (word φ s)) ∧ Holds cells (φ r.ix) (enc φ o) := by
  have hR := ok_obj hr ho
  have hlt := h.wf.there _ hR
  have e : A.objs[r.ix]? = some A.objs[r.ix] := List.getElem?_eq_getElem hlt
  obtain ⟨h1, h2⟩ := h.obj _ _ hR e
  have h3 := h.wf.obj _ _ hR e
  have hrm := h.room
  refine ⟨_, e, hR, ?_, h3.1, by omega, h3.2.1, ?_, by omega, h2, fun hraw k s hk => ?_, h1⟩
  · have := holds_get (k := 0) (x := head A.objs[r.ix]) h1 rfl
    rwa [Nat.add_zero] at this
  · unfold AH.fields; rw [if_pos ho, e]; rfl
  · rw [Nat.add_assoc, Nat.add_comm 1 k]
    refine holds_get h1 ?_
    unfold enc body
    rw [hraw, List.getElem?_cons_succ, if_neg (by simp), List.getElem?_map, hk]; rfl
end
end Hp

theorem topOf_word {A : AH} {φ : Nat → Nat} {stack : List Int} (hs : stack = A.stack.map (word φ)) (i : Int) : topOf stack i = word φ (A.topI i) := by
  subst hs
  unfold topOf AH.topI AH.top
  rw [List.length_map]
  by_cases h0 : 0 ≤ i
  · rw [if_pos h0]
    by_cases h1 : i.toNat < A.stack.length
    · rw [if_pos ⟨h0, by omega⟩, if_pos h1]
      simp only [List.getD_eq_getElem?_getD, List.getElem?_map]
      rw [List.getElem?_eq_getElem (by omega)]; rfl
    · rw [if_neg (by omega), if_neg h1]; rfl
  · rw [if_neg (by omega), if_neg h0]; rfl

section
variable {N m : Nat} {w0 w : World} {p : Nat} {A : AH} {φ : Nat → Nat}

theorem Mine.wf (h : Mine N w0 p A φ m w) : A.Wf := by obtain ⟨F, h, _⟩ := h; exact h.wf
theorem Mine.below (h : Mine N w0 p A φ m w) : Below N w0 w := by obtain ⟨F, _, _, h, _⟩ := h; exact h
theorem Mine.size (h : Mine N w0 p A φ m w) : N ≤ w.heap.size := by obtain ⟨F, _, _, _, h⟩ := h; exact h
theorem Mine.mono (h : Mine N w0 p A φ m w) {m' : Nat} (hm : m ≤ m') : Mine N w0 p A φ m' w := by obtain ⟨F, h, k⟩ := h; exact ⟨F, h.mono hm, k⟩

theorem Mine.step {F F' : List Nat} {w' : World} {A' : AH} {φ' : Nat → Nat} {m' : Nat} (hF : ∀ k ∈ F, N ≤ k) (hb : Below N w0 w) (hN : N ≤ w.heap.size) (h' : HeapAt w' p F' A' φ' m') (hc : Chg F w w') (hw : Within F F' w.heap.size) : Mine N w0 p A' φ' m' w' :=
  ⟨F', h', fun k hk => by rcases hw k hk with e | e; exact hF k e; omega, hb.trans (hc.below hN hF), Nat.le_trans hN hc.size⟩

/-- Blocks that were made since: the heap is where it was. -/
theorem Mine.later {w' : World} (h : Mine N w0 p A φ m w) (hb : Below w.heap.size w w') : Mine N w0 p A φ m w' := by
  obtain ⟨F, h1, h2, h3, h4⟩ := h
  refine ⟨F, h1.chg (chg_of_below hb) fun k hk hm => ?_, h2, h3.trans (hb.mono h4), Nat.le_trans h4 hb.size⟩
  have := h1.lt hk
  have := (List.mem_range'_1.1 hm).1
  omega
theorem Mine.drewN (h : Mine N w0 p A φ m w) (n : Nat) : Mine N w0 p A φ m (w.drewN n) := h.later (((Chg.refl [] w).drewN n).below (Nat.le_refl _) (by simp))

theorem Kept.mined {F : List Nat} {A' : AH} {v : Value} {e : Ending} {w' : World} (hF : ∀ k ∈ F, N ≤ k) (hb : Below N w0 w) (hN : N ≤ w.heap.size) (h : Kept w p F A' φ m v e w') : Mined N w0 p A' φ m v e w' := by
  obtain ⟨he, F', h1, h2, h3⟩ := h
  exact ⟨he, Mine.step hF hb hN h1 h2 h3⟩
theorem Turned.mixed {F : List Nat} {A' : AH} {v : Value} {e : Ending} {w' : World} (hF : ∀ k ∈ F, N ≤ k) (hb : Below N w0 w) (hN : N ≤ w.heap.size) (h : Turned w p F A' m v e w') : Mixed N w0 p A' m v e w' := by
  obtain ⟨he, φ', F', h1, h2, h3⟩ := h
  exact ⟨he, φ', Mine.step hF hb hN h1 h2 h3⟩

theorem Mine.quiet (h : Mine N w0 p A φ m w) {f : FuncId} {args : Array Value} {v : Value} {P : Program} (hc : Calls P f args w fun e w' => e = .returned v ∧ ∃ n, w' = w.drewN n) : Calls P f args w (Mined N w0 p A φ m v) :=
  hc.mono fun _ _ ⟨he, n, hw⟩ => ⟨he, hw ▸ h.drewN n⟩
def NewMine (w : World) (n : Nat) (e : Ending) (w' : World) : Prop :=
  ∃ p, e = .returned (.tuple #[.pointer (some ⟨p, 0, none⟩), .int .i64 0]) ∧ Mine w.heap.size w p (AH.empty n) (fun _ => 0) 0 w'
theorem mine_new (w : World) (n : Nat) (hn : n ≤ 4194304) {x : Int} (hx : x = n) : Calls Try.prog 14 #[.int .i64 x] w (NewMine w n) := by
  subst hx
  refine (new_any n (by omega) (by omega) w).mono ?_
  rintro e w' ⟨p, bp, he, h1, h2, h3, h4⟩
  have hF : ∀ k ∈ foot p bp (.slice none 0 0) (.slice none 0 0), w.heap.size ≤ k := fun k hk => by
    rcases mem_foot.1 hk with e | e | e | e
    · omega
    · omega
    · simp [Value.ownBlock] at e
    · simp [Value.ownBlock] at e
  exact ⟨p, he, _, ⟨bp, 0, _, _, [], [], fun _ => none, h1, rep_empty n _, rfl, Nat.le_refl _, hn⟩, hF, h2.below (Nat.le_refl _) (by simp), h2.size⟩

theorem mine_push (h : Mine N w0 p A φ m w) (hst : A.stack.length < 1000000000) {r : Ref} (hr : A.Ok r) {x : Int} (hx : x = word φ r) {B : AH} (hB : B = A.push r) :
    Calls Try.prog 15 #[.pointer (some ⟨p, 0, none⟩), .int .i64 x] w (Mined N w0 p B φ m (.tuple #[])) := by
  subst hx hB
  obtain ⟨F, h1, h2, h3, h4⟩ := h
  exact (at_push h1 hst hr).mono fun _ _ k => k.mined h2 h3 h4
theorem mine_drop (h : Mine N w0 p A φ m w) (n : Int) {B : AH} (hB : B = A.drop (dropOf n)) :
    Calls Try.prog 17 #[.pointer (some ⟨p, 0, none⟩), .int .i64 n] w (Mined N w0 p B φ m (.tuple #[])) := by
  subst hB
  obtain ⟨F, h1, h2, h3, h4⟩ := h
  exact (at_drop h1 n).mono fun _ _ k => k.mined h2 h3 h4
theorem mine_height (h : Mine N w0 p A φ m w) {v : Int} (hv : v = A.stack.length) : Calls Try.prog 19 #[.pointer (some ⟨p, 0, none⟩)] w fun e w' => e = .returned (.int .i64 v) ∧ w = w' := by
  subst hv
  obtain ⟨F, h1, h2, h3, h4⟩ := h
  exact at_height h1
theorem mine_live (h : Mine N w0 p A φ m w) (hst : A.stack.length < 1000000000) (hm : m < 1000000000) {v : Int} (hv : v = (A.live : Int)) :
    Calls Try.prog 18 #[.pointer (some ⟨p, 0, none⟩)] w (Mixed N w0 p A m (.int .i64 v)) := by
  subst hv
  obtain ⟨F, h1, h2, h3, h4⟩ := h
  exact (at_live h1 hst hm).mono fun _ _ k => k.mixed h2 h3 h4
theorem mine_make (h : Mine N w0 p A φ m w) (hst : A.stack.length < 1000000000) (hm : m < 1000000000) {K C : Int} {v : Int} (kind n : Nat) (hK : K = kind) (hN : C = n) (hk : kind ≤ 1000) (hn : n ≤ A.stack.length) {B : AH} (hB : B = if A.live + (1 + n) ≤ A.limit then A.make kind n else A) (hv : v = if A.live + (1 + n) ≤ A.limit then 0 else 14) :
    Calls Try.prog 16 #[.pointer (some ⟨p, 0, none⟩), .int .i64 K, .int .i64 C] w (Mixed N w0 p B m (.int .i64 v)) := by
  subst hK hN hB hv
  obtain ⟨F, h1, h2, h3, h4⟩ := h
  exact (at_make h1 hst hm kind n hk hn).mono fun _ _ k => k.mixed h2 h3 h4
theorem mine_makes (h : Mine N w0 p A φ m w) (hst : A.stack.length < 1000000000) (hm : m < 1000000000) {K C : Int} (kind n : Nat) (hK : K = kind) (hN : C = n) (hk : kind ≤ 1000) (hn : n ≤ A.stack.length) (hroom : A.live + (1 + n) ≤ A.limit) {B : AH} (hB : B = A.make kind n) :
    Calls Try.prog 16 #[.pointer (some ⟨p, 0, none⟩), .int .i64 K, .int .i64 C] w (Mixed N w0 p B m (.int .i64 0)) :=
  mine_make h hst hm kind n hK hN hk hn (by rw [if_pos hroom]; exact hB) (by rw [if_pos hroom])
theorem mine_makes_not (h : Mine N w0 p A φ m w) (hst : A.stack.length < 1000000000) (hm : m < 1000000000) {K C : Int} (kind n : Nat) (hK : K = kind) (hN : C = n) (hk : kind ≤ 1000) (hn : n ≤ A.stack.length) (hroom : ¬ A.live + (1 + n) ≤ A.limit) :
    Calls Try.prog 16 #[.pointer (some ⟨p, 0, none⟩), .int .i64 K, .int .i64 C] w (Mixed N w0 p A m (.int .i64 14)) :=
  mine_make h hst hm kind n hK hN hk hn (by rw [if_neg hroom]) (by rw [if_neg hroom])

theorem mine_top (h : Mine N w0 p A φ m w) (i : Int) {v : Int} (hv : v = word φ (A.topI i)) : Calls Try.prog 21 #[.pointer (some ⟨p, 0, none⟩), .int .i64 i] w fun e w' => e = .returned (.int .i64 v) ∧ ∃ n, w' = w.drewN n := by
  subst hv
  obtain ⟨F, ⟨bp, np, vc, vs, cells, stack, pins, h1, h2, rfl, h4, h5⟩, _⟩ := h
  have := top_any w p bp np vc vs A.limit cells stack pins h1 i
  rw [topOf_word h2.stack] at this
  exact this
theorem mine_pop (h : Mine N w0 p A φ m w) {v : Int} (hv : v = word φ (A.topI 0)) {B : AH} (hB : B = A.drop 1) : Calls Try.prog 27 #[.pointer (some ⟨p, 0, none⟩)] w (Mined N w0 p B φ m (.int .i64 v)) := by
  subst hv hB
  obtain ⟨F, ⟨bp, np, vc, vs, cells, stack, pins, h1, h2, rfl, h4, h5⟩, h6, h7, h8⟩ := h
  refine (pop_any h1).mono ?_
  rintro e w' ⟨he, vc', vs', g1, g2, g3⟩
  rw [topOf_word h2.stack] at he
  exact ⟨he, Mine.step h6 h7 h8 ⟨bp, np, vc', vs', cells, _, pins, g1, h2.drop 1, rfl, h4, h5⟩ g2 g3⟩
theorem mine_pin (h : Mine N w0 p A φ m w) {k : Int} (hk : (Lit.int .i64 k).wf = true) (hm : m < 1000000000) {r : Ref} (hr : A.Ok r) (hlim : A.limit ≤ 4194304) {x : Int} (hx : x = word φ r) {B : AH} (hB : B = A.pin k r) :
    Calls Try.prog 20 #[.pointer (some ⟨p, 0, none⟩), .int .i64 k, .int .i64 x] w (Mined N w0 p B φ (m + 1) (.tuple #[])) := by
  subst hx hB
  obtain ⟨F, ⟨bp, np, vc, vs, cells, stack, pins, h1, h2, rfl, h4, h5⟩, h6, h7, h8⟩ := h
  have hwf : (Lit.int .i64 (word φ r)).wf = true := word_wf hr fun ho => by
    obtain ⟨o, _, _, _, _, _, _, _, q1, q2, _⟩ := h2.parts hr ho hlim
    omega
  refine (pin_any w p bp np vc vs A.limit cells stack pins h1 k (word φ r) hk hwf (by omega)).mono ?_
  rintro e w' ⟨he, vc', vs', g1, g2, g3⟩
  exact ⟨he, Mine.step h6 h7 h8 ⟨bp, np + 1, vc', vs', cells, _, _, g1, h2.pin k hr, rfl, by omega, h5⟩ g2 g3⟩
theorem mine_unpin (h : Mine N w0 p A φ m w) {k : Int} (hk : (Lit.int .i64 k).wf = true) {B : AH} (hB : B = A.unpin k) :
    Calls Try.prog 24 #[.pointer (some ⟨p, 0, none⟩), .int .i64 k] w (Mined N w0 p B φ m (.tuple #[])) := by
  subst hB
  obtain ⟨F, ⟨bp, np, vc, vs, cells, stack, pins, h1, h2, rfl, h4, h5⟩, h6, h7, h8⟩ := h
  refine (unpin_any w p bp np vc vs A.limit cells stack pins h1 k hk).mono ?_
  rintro e w' ⟨he, vc', vs', g1, g2, g3⟩
  exact ⟨he, Mine.step h6 h7 h8 ⟨bp, np, vc', vs', cells, _, _, g1, h2.unpin k, rfl, by omega, h5⟩ g2 g3⟩
theorem mine_pinned (h : Mine N w0 p A φ m w) {k : Int} (hk : (Lit.int .i64 k).wf = true) {v : Int} {b : Bool} (hv : v = ((A.pins k).map (word φ)).getD 0) (hb : b = (A.pins k).isSome) :
    Calls Try.prog 22 #[.pointer (some ⟨p, 0, none⟩), .int .i64 k] w fun e w' => e = .returned (.tuple #[.int .i64 v, .bool b]) ∧ w = w' := by
  subst hv hb
  obtain ⟨F, ⟨bp, np, vc, vs, cells, stack, pins, h1, h2, rfl, h4, h5⟩, h6, h7, h8⟩ := h
  have := pinned_any w p bp np vc vs A.limit cells stack pins h1 k hk
  rw [h2.pins k] at this
  rw [show (Option.map (word φ) (A.pins k)).isSome = (A.pins k).isSome by cases A.pins k <;> rfl] at this
  exact this
theorem mine_kind (h : Mine N w0 p A φ m w) {r : Ref} (hr : A.Ok r) {x : Int} (hx : x = word φ r) {v : Int} (hv : v = A.kindOf r) :
    Calls Try.prog 28 #[.pointer (some ⟨p, 0, none⟩), .int .i64 x] w fun e w' => e = .returned (.int .i64 v) ∧ ∃ n, w' = w.drewN n := by
  subst hx hv
  obtain ⟨F, ⟨bp, np, vc, vs, cells, stack, pins, h1, h2, rfl, h4, h5⟩, _⟩ := h
  cases ho : r.obj
  · unfold AH.kindOf; rw [ho, if_neg (by simp)]
    exact kind_imm w p _ (word_imm φ ho)
  · obtain ⟨o, q1, q2, q3, q4, q5, q6, q7, q8, q9, q10, q11⟩ := h2.parts hr ho h5
    unfold AH.kindOf; rw [ho, if_pos rfl, q1, word_obj φ ho]
    exact kind_obj h1 q8 _ o q3 (head_is o q4 q5)
theorem mine_size (h : Mine N w0 p A φ m w) {r : Ref} (hr : A.Ok r) {x : Int} (hx : x = word φ r) {v : Int} (hv : v = A.sizeOf r) :
    Calls Try.prog 29 #[.pointer (some ⟨p, 0, none⟩), .int .i64 x] w fun e w' => e = .returned (.int .i64 v) ∧ ∃ n, w' = w.drewN n := by
  subst hx hv
  obtain ⟨F, ⟨bp, np, vc, vs, cells, stack, pins, h1, h2, rfl, h4, h5⟩, _⟩ := h
  cases ho : r.obj
  · unfold AH.sizeOf AH.fields; rw [ho, if_neg (by simp)]
    exact size_imm w p _ (word_imm φ ho)
  · obtain ⟨o, q1, q2, q3, q4, q5, q6, q7, q8, q9, q10, q11⟩ := h2.parts hr ho h5
    unfold AH.sizeOf; rw [q7, word_obj φ ho]
    cases hraw : o.raw
    · exact size_fields h1 q8 _ o q3 (head_is o q4 q5) hraw
    · rw [q6 hraw]; exact size_raw h1 q8 _ o q3 (head_is o q4 q5) hraw
theorem mine_field (h : Mine N w0 p A φ m w) {r : Ref} (hr : A.Ok r) {x : Int} (hx : x = word φ r) (i : Int) {v : Int} (hv : v = word φ (A.fieldI r i)) :
    Calls Try.prog 25 #[.pointer (some ⟨p, 0, none⟩), .int .i64 x, .int .i64 i] w fun e w' => e = .returned (.int .i64 v) ∧ ∃ n, w' = w.drewN n := by
  subst hx hv
  obtain ⟨F, ⟨bp, np, vc, vs, cells, stack, pins, h1, h2, rfl, h4, h5⟩, _⟩ := h
  cases ho : r.obj
  · have e : word φ (A.fieldI r i) = 1 := by
      unfold AH.fieldI AH.field AH.fields; rw [ho]; simp [imm, word]
    rw [e]
    exact field_imm w p _ i (word_imm φ ho)
  · obtain ⟨o, q1, q2, q3, q4, q5, q6, q7, q8, q9, q10, q11⟩ := h2.parts hr ho h5
    rw [word_obj φ ho]
    by_cases hi : 0 ≤ i ∧ i < o.fields.length
    · obtain ⟨k, rfl⟩ : ∃ k : Nat, i = k := ⟨i.toNat, by omega⟩
      have hraw : o.raw = false := by
        cases e : o.raw
        · rfl
        · have := q6 e; rw [this] at hi; simp at hi; omega
      have hk : k < o.fields.length := by omega
      have e : A.fieldI r (k : Int) = o.fields[k] := by
        unfold AH.fieldI AH.field; rw [if_pos (by omega), q7, Int.toNat_natCast, List.getD_eq_getElem?_getD, List.getElem?_eq_getElem hk]; rfl
      rw [e]
      exact field_some h1 q8 _ o q3 (head_is o q4 q5) hraw k hk _ (q10 hraw k _ (List.getElem?_eq_getElem hk))
    · have e : word φ (A.fieldI r i) = 1 := by
        unfold AH.fieldI
        split
        · unfold AH.field; rw [q7, List.getD_eq_getElem?_getD, List.getElem?_eq_none (by omega)]; rfl
        · rfl
      rw [e]
      exact field_none h1 q8 _ o q3 (head_is o q4 q5) q6 i (by omega)
theorem mine_set (h : Mine N w0 p A φ m w) {r y : Ref} (hr : A.Ok r) {x : Int} (hx : x = word φ r) (i : Int) (hy : A.Ok y) {z : Int} (hz : z = word φ y) {B : AH} (hB : B = A.setI r i y) :
    Calls Try.prog 23 #[.pointer (some ⟨p, 0, none⟩), .int .i64 x, .int .i64 i, .int .i64 z] w (Mined N w0 p B φ m (.tuple #[])) := by
  have hM := h
  subst hx hz hB
  obtain ⟨F, ⟨bp, np, vc, vs, cells, stack, pins, h1, h2, rfl, h4, h5⟩, h6, h7, h8⟩ := h
  cases ho : r.obj
  · have e : A.setI r i y = A := by unfold AH.setI; rw [if_neg (by simp [ho])]
    rw [e]
    refine (set_imm w p _ i _ (word_imm φ ho)).mono ?_
    rintro e w' ⟨he, n, rfl⟩
    exact ⟨he, hM.drewN n⟩
  · obtain ⟨o, q1, q2, q3, q4, q5, q6, q7, q8, q9, q10, q11⟩ := h2.parts hr ho h5
    have hsz : A.sizeOf r = o.fields.length := by unfold AH.sizeOf; rw [q7]
    rw [word_obj φ ho]
    by_cases hi : 0 ≤ i ∧ i < o.fields.length
    · have e : A.setI r i y = A.setField r.ix i.toNat y := by unfold AH.setI; rw [if_pos ⟨ho, hi.1, by rw [hsz]; exact hi.2⟩]
      rw [e]
      obtain ⟨k, rfl⟩ : ∃ k : Nat, i = k := ⟨i.toNat, by omega⟩
      have hraw : o.raw = false := by
        cases e : o.raw
        · rfl
        · have := q6 e; rw [this] at hi; simp at hi; omega
      have hk : k < o.fields.length := by omega
      rw [Int.toNat_natCast]
      have hszo : o.size = 1 + o.fields.length := by unfold Ob.size; simp [hraw]
      refine (set_some h1 q8 _ o q3 (head_is o q4 q5) hraw k hk (by omega) _).mono ?_
      rintro e w' ⟨he, vc', vs', g1, g2, g3⟩
      exact ⟨he, Mine.step h6 h7 h8 ⟨bp, np, vc', vs', _, _, _, g1, h2.setField q2 q1 hraw hk hy, rfl, by omega, h5⟩ g2 g3⟩
    · have e : A.setI r i y = A := by unfold AH.setI; rw [if_neg (by rw [hsz]; omega)]
      rw [e]
      refine (set_none h1 q8 _ o q3 (head_is o q4 q5) q6 i _ (by omega)).mono ?_
      rintro e w' ⟨he, n, rfl⟩
      exact ⟨he, hM.drewN n⟩
end
end Go.Proofs.Ytlbiapgikkjooaa
