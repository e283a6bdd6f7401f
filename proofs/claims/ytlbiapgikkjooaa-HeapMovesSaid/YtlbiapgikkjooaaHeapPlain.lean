/- A heap of objects, in plain words: what can be come to, how many cells that needs, and how it lies in cells; no program in sight. -/
namespace Go.Proofs.Ytlbiapgikkjooaa.Hp
set_option linter.unusedSimpArgs false
set_option linter.unusedVariables false
set_option linter.unusedSectionVars false

/-- An integer, or (obj) an object's number. -/
structure Ref where
  obj : Bool
  n : Int

/-- An object: its kind, whether it is bytes, its fields, its bytes. -/
structure Ob where
  kind : Nat
  raw : Bool
  fields : List Ref
  bytes : List UInt8

/-- A heap: its cells, all objects that ever were, the stack (the top is last), the pins. -/
structure AH where
  limit : Nat
  objs : List Ob
  stack : List Ref
  pins : Int → Option Ref

def Ob.size (o : Ob) : Nat := 1 + (if o.raw then (o.bytes.length + 7) / 8 else o.fields.length)

def Ref.ix (r : Ref) : Nat := r.n.toNat

/-- A word names object i. -/
def Names (r : Ref) (i : Nat) : Prop := r.obj = true ∧ r.n = i

def AH.Root (A : AH) (r : Ref) : Prop := r ∈ A.stack ∨ ∃ k, A.pins k = some r
def AH.Edge (A : AH) (i : Nat) (r : Ref) : Prop := ∃ o, A.objs[i]? = some o ∧ o.raw = false ∧ r ∈ o.fields

/-- Object i can be come to. -/
def AH.Reach (A : AH) (i : Nat) : Prop :=
  ∀ S : Nat → Prop, (∀ r j, A.Root r → Names r j → S j) → (∀ i r j, S i → A.Edge i r → Names r j → S j) → S i

/-- A word that can be handed to the heap: an integer, or an object that can be come to. -/
def AH.Ok (A : AH) (r : Ref) : Prop := if r.obj then ∃ i : Nat, r.n = i ∧ A.Reach i else -4611686018427387904 ≤ r.n ∧ r.n ≤ 4611686018427387903

theorem AH.Reach.root {A : AH} {r : Ref} {j : Nat} (h : A.Root r) (hj : Names r j) : A.Reach j := fun _ h1 _ => h1 r j h hj
theorem AH.Reach.edge {A : AH} {i : Nat} {r : Ref} {j : Nat} (h : A.Reach i) (he : A.Edge i r) (hj : Names r j) : A.Reach j :=
  fun S h1 h2 => h2 i r j (h S h1 h2) he hj

/-- If what is come to in A is within S, which B's roots and edges keep to .. -/
theorem AH.Reach.mono {A B : AH} {i : Nat} (h : A.Reach i) (hr : ∀ r j, A.Root r → Names r j → B.Reach j) (he : ∀ i r j, B.Reach i → A.Edge i r → Names r j → B.Reach j) : B.Reach i :=
  h B.Reach hr he

open Classical in
/-- The cells of all that can be come to. -/
noncomputable def AH.live (A : AH) : Nat := ((List.range A.objs.length).map fun i => if A.Reach i then ((A.objs[i]?).map Ob.size).getD 0 else 0).sum

/-- All is in order: what is come to is there, and its integers are integers. -/
structure AH.Wf (A : AH) : Prop where
  obj : ∀ i o, A.Reach i → A.objs[i]? = some o → o.kind ≤ 1000 ∧ (o.raw = true → o.fields = []) ∧ (o.raw = false → o.bytes = [])
  there : ∀ i, A.Reach i → i < A.objs.length
  rootInt : ∀ r, A.Root r → r.obj = false → -4611686018427387904 ≤ r.n ∧ r.n ≤ 4611686018427387903
  rootObj : ∀ r, A.Root r → r.obj = true → 0 ≤ r.n
  fieldInt : ∀ i r, A.Reach i → A.Edge i r → r.obj = false → -4611686018427387904 ≤ r.n ∧ r.n ≤ 4611686018427387903
  fieldObj : ∀ i r, A.Reach i → A.Edge i r → r.obj = true → 0 ≤ r.n

theorem names_of {r : Ref} (h : r.obj = true) (h0 : 0 ≤ r.n) : Names r r.n.toNat := ⟨h, by omega⟩

theorem AH.Wf.ok_root {A : AH} (h : A.Wf) {r : Ref} (hr : A.Root r) : A.Ok r := by
  unfold AH.Ok
  split
  · rename_i ho
    exact ⟨r.n.toNat, by have := h.rootObj r hr ho; omega, .root hr (names_of ho (h.rootObj r hr ho))⟩
  · rename_i ho
    exact h.rootInt r hr (by simpa using ho)
theorem AH.Wf.ok_field {A : AH} (h : A.Wf) {i : Nat} {r : Ref} (hi : A.Reach i) (hr : A.Edge i r) : A.Ok r := by
  unfold AH.Ok
  split
  · rename_i ho
    exact ⟨r.n.toNat, by have := h.fieldObj i r hi hr ho; omega, hi.edge hr (names_of ho (h.fieldObj i r hi hr ho))⟩
  · rename_i ho
    exact h.fieldInt i r hi hr (by simpa using ho)

/-- The bytes of one cell, the first lowest. -/
def packOne : List UInt8 → Int
  | [] => 0
  | b :: r => (b.toNat : Int) + 256 * packOne r
/-- A number of 64 bits with a sign. -/
def signed64 (n : Int) : Int := (n + 9223372036854775808) % 18446744073709551616 - 9223372036854775808
/-- Bytes in cells, eight to a cell. -/
def pack (fuel : Nat) (l : List UInt8) : List Int := match fuel with
  | 0 => []
  | f + 1 => if l.isEmpty then [] else signed64 (packOne (l.take 8)) :: pack f (l.drop 8)

/-- The word of a reference, object i standing at φ i. -/
def word (φ : Nat → Nat) (r : Ref) : Int := if r.obj then 2 * (φ r.ix : Int) else 2 * r.n + 1

def head (o : Ob) : Int := if o.raw then (o.bytes.length : Int) * 2048 + 1024 + o.kind else (o.fields.length : Int) * 2048 + o.kind
def body (φ : Nat → Nat) (o : Ob) : List Int := if o.raw then pack o.bytes.length o.bytes else o.fields.map (word φ)
def enc (φ : Nat → Nat) (o : Ob) : List Int := head o :: body φ o

theorem length_pack (f : Nat) : ∀ (l : List UInt8), l.length ≤ f → (pack f l).length = (l.length + 7) / 8 := by
  induction f with
  | zero => intro l h; simp [pack]; omega
  | succ f ih =>
    intro l h
    unfold pack
    by_cases hl : l.isEmpty
    · rw [if_pos hl]; simp [List.isEmpty_iff.1 hl]
    · rw [if_neg hl]
      have : l.length ≠ 0 := by intro e; exact hl (by simpa using e)
      rw [List.length_cons, ih (l.drop 8) (by rw [List.length_drop]; omega), List.length_drop]
      omega
theorem length_body (φ : Nat → Nat) (o : Ob) : (body φ o).length + 1 = o.size := by
  unfold body Ob.size
  split
  · rw [length_pack _ _ (Nat.le_refl _)]; omega
  · rw [List.length_map]; omega
theorem length_enc (φ : Nat → Nat) (o : Ob) : (enc φ o).length = o.size := by
  unfold enc; rw [List.length_cons]; exact length_body φ o

/-- The cells hold object o at a. -/
def Holds (cells : List Int) (a : Nat) (l : List Int) : Prop := (cells.drop a).take l.length = l

/-- How a heap lies in cells: object i at φ i. -/
structure Rep (A : AH) (φ : Nat → Nat) (cells stack : List Int) (pins : Int → Option Int) : Prop where
  wf : A.Wf
  obj : ∀ i o, A.Reach i → A.objs[i]? = some o → Holds cells (φ i) (enc φ o) ∧ φ i + o.size ≤ cells.length
  apart : ∀ i j o p, A.Reach i → A.Reach j → i ≠ j → A.objs[i]? = some o → A.objs[j]? = some p → φ i + o.size ≤ φ j ∨ φ j + p.size ≤ φ i
  stack : stack = A.stack.map (word φ)
  pins : ∀ k, pins k = (A.pins k).map (word φ)
  room : cells.length ≤ A.limit
end Go.Proofs.Ytlbiapgikkjooaa.Hp
