/- A type as it lies in memory: a tree. -/
import Derived.Test.YthchkekegkhanaaDoorProg
import Derived.Test.YthchkekegkhanaaDoorMemZ
import Derived.Test.YthchkekegkhanaaDoorKdSol
import Derived.WideShapes
import Derived.Deep.AppendLies
import Derived.BigRegion
namespace Go.Proofs.YthchkekegkhanaaDoor
open Go.RowKit

/-- A value: its kind, its number, its text, its parts. -/
inductive VT where
  | node (kind num : Int) (text : ByteArray) (kids : List VT)

namespace VT
def kind : VT → Int | node k _ _ _ => k
def num : VT → Int | node _ n _ _ => n
def text : VT → ByteArray | node _ _ s _ => s
def kids : VT → List VT | node _ _ _ l => l
theorem eta (t : VT) : t = node t.kind t.num t.text t.kids := by cases t; rfl
end VT

/-- The value of a node whose kids lie at ao. -/
def vval (t : VT) (ao : Option Addr) (cap : Nat) : Value := .agg #[.int .i64 t.kind, .int .i64 t.num, .string t.text, .slice ao t.kids.length cap]

mutual
/-- v reads as t, all of it in the blocks P. -/
def ValIs (w : World) (P : Nat → Prop) : VT → Value → Prop
  | .node k n s l, v => ∃ ao cap, v = .agg #[.int .i64 k, .int .i64 n, .string s, .slice ao l.length cap] ∧ l.length ≤ cap ∧ cap ≤ maxLen ∧ s.size ≤ maxLen ∧ (Lit.int .i64 k).wf = true ∧ (Lit.int .i64 n).wf = true ∧ (ao = none → cap = 0) ∧ KidsAt w P l ao 0
def KidsAt (w : World) (P : Nat → Prop) : List VT → Option Addr → Nat → Prop
  | [], _, _ => True
  | t :: ts, ao, j => (∃ b off x0 x1 x2 x3, ao = some ⟨b, off, none⟩ ∧ P b ∧ w.cell? ⟨b, off + j * 4, none⟩ = some x0 ∧ w.cell? ⟨b, off + j * 4 + 1, none⟩ = some x1 ∧ w.cell? ⟨b, off + j * 4 + 2, none⟩ = some x2 ∧ w.cell? ⟨b, off + j * 4 + 3, none⟩ = some x3 ∧ ValIs w P t (.agg #[x0, x1, x2, x3])) ∧ KidsAt w P ts ao (j + 1)
end

mutual
theorem ValIs.keep {w w' : World} {P Q : Nat → Prop} (hPQ : ∀ b, P b → Q b) (hc : ∀ p : Addr, P p.block → w'.cell? p = w.cell? p) : ∀ {t : VT} {v : Value}, ValIs w P t v → ValIs w' Q t v
  | .node _ _ _ _, _, h => by
    unfold ValIs at h ⊢
    obtain ⟨ao, cap, h1, h2, h3, h4, h5, h6, h7, h8⟩ := h
    exact ⟨ao, cap, h1, h2, h3, h4, h5, h6, h7, h8.keep hPQ hc⟩
theorem KidsAt.keep {w w' : World} {P Q : Nat → Prop} (hPQ : ∀ b, P b → Q b) (hc : ∀ p : Addr, P p.block → w'.cell? p = w.cell? p) : ∀ {l : List VT} {ao : Option Addr} {j : Nat}, KidsAt w P l ao j → KidsAt w' Q l ao j
  | [], _, _, _ => by unfold KidsAt; trivial
  | _ :: _, _, _, h => by
    unfold KidsAt at h ⊢
    obtain ⟨⟨b, off, x0, x1, x2, x3, h1, h2, h3, h4, h5, h6, h7⟩, h8⟩ := h
    exact ⟨⟨b, off, x0, x1, x2, x3, h1, hPQ b h2, (hc _ h2).trans h3, (hc _ h2).trans h4, (hc _ h2).trans h5, (hc _ h2).trans h6, h7.keep hPQ hc⟩, h8.keep hPQ hc⟩
end
theorem ValIs.below {w w' : World} {P : Nat → Prop} {M : Nat} {t : VT} {v : Value} (h : ValIs w P t v) (hb : Below M w w') (hP : ∀ b, P b → b < M) : ValIs w' P t v := h.keep (fun _ h => h) fun p hp => hb.cell (hP p.block hp)
theorem ValIs.mono {w : World} {P Q : Nat → Prop} {t : VT} {v : Value} (h : ValIs w P t v) (hPQ : ∀ b, P b → Q b) : ValIs w Q t v := h.keep hPQ fun _ _ => rfl
theorem ValIs.drewN {w : World} {P : Nat → Prop} {t : VT} {v : Value} (h : ValIs w P t v) (n : Nat) : ValIs (w.drewN n) P t v := h.keep (fun _ h => h) fun _ _ => by simp
/-- Other blocks may turn. -/
theorem ValIs.chg {w w' : World} {P : Nat → Prop} {F : List Nat} {t : VT} {v : Value} (h : ValIs w P t v) (hc : Chg F w w') (hP : ∀ b, P b → b < w.heap.size ∧ b ∉ F) : ValIs w' P t v :=
  h.keep (fun _ h => h) fun p hp => by
    have := hc.block p.block (hP p.block hp).1 (hP p.block hp).2
    unfold World.cell?; rw [this]

/-- One of the kids. -/
theorem KidsAt.get {w : World} {P : Nat → Prop} : ∀ {l : List VT} {ao : Option Addr} {j i : Nat} {t : VT}, KidsAt w P l ao j → l[i]? = some t → ∃ b off x0 x1 x2 x3, ao = some ⟨b, off, none⟩ ∧ P b ∧ w.cell? ⟨b, off + (j + i) * 4, none⟩ = some x0 ∧ w.cell? ⟨b, off + (j + i) * 4 + 1, none⟩ = some x1 ∧ w.cell? ⟨b, off + (j + i) * 4 + 2, none⟩ = some x2 ∧ w.cell? ⟨b, off + (j + i) * 4 + 3, none⟩ = some x3 ∧ ValIs w P t (.agg #[x0, x1, x2, x3])
  | [], _, _, _, _, _, h => by cases h
  | t :: l, ao, j, 0, u, h, hi => by
    rw [List.getElem?_cons_zero] at hi; cases hi
    unfold KidsAt at h
    exact h.1
  | t :: l, ao, j, i + 1, u, h, hi => by
    rw [List.getElem?_cons_succ] at hi
    unfold KidsAt at h
    have := h.2.get hi
    rw [show j + 1 + i = j + (i + 1) by omega] at this
    exact this
theorem KidsAt.cells {w : World} {P : Nat → Prop} {l : List VT} {b off j i : Nat} {t : VT} (h : KidsAt w P l (some ⟨b, off, none⟩) j) (hi : l[i]? = some t) : P b ∧ ∃ ao cap, w.cell? ⟨b, off + (j + i) * 4, none⟩ = some (.int .i64 t.kind) ∧ w.cell? ⟨b, off + (j + i) * 4 + 1, none⟩ = some (.int .i64 t.num) ∧ w.cell? ⟨b, off + (j + i) * 4 + 2, none⟩ = some (.string t.text) ∧ w.cell? ⟨b, off + (j + i) * 4 + 3, none⟩ = some (.slice ao t.kids.length cap) ∧ ValIs w P t (vval t ao cap) := by
  obtain ⟨b', off', x0, x1, x2, x3, h1, h2, h3, h4, h5, h6, h7⟩ := h.get hi
  cases h1
  have h7' := h7
  rw [t.eta] at h7'
  unfold ValIs at h7'
  obtain ⟨ao, cap, hv, _⟩ := h7'
  have hv := congrArg (fun v => match v with | Value.agg a => a.toList | _ => []) hv
  simp at hv
  obtain ⟨rfl, rfl, rfl, rfl⟩ := hv
  exact ⟨h2, ao, cap, h3, h4, h5, h6, h7⟩
namespace VT
mutual
def sz : VT → Nat
  | node _ _ _ l => 1 + szs l
def szs : List VT → Nat
  | [] => 0
  | t :: l => sz t + szs l
end
theorem sz_get : ∀ {l : List VT} {i : Nat} {t : VT}, l[i]? = some t → t.sz ≤ szs l
  | [], _, _, h => by cases h
  | t :: l, 0, u, h => by rw [List.getElem?_cons_zero] at h; cases h; unfold szs; omega
  | t :: l, i + 1, u, h => by rw [List.getElem?_cons_succ] at h; have := sz_get h; unfold szs; omega
theorem sz_kid {t u : VT} {i : Nat} (h : t.kids[i]? = some u) : u.sz < t.sz := by
  cases t with
  | node k n s l =>
    have h1 : u.sz ≤ szs l := sz_get h
    have h2 : (node k n s l).sz = 1 + szs l := by rw [sz]
    omega
end VT
theorem text_inj {a b : ByteArray} (h : a.toList = b.toList) : a = b := by
  rw [ByteArray.toList_eq, ByteArray.toList_eq] at h
  exact Go.WideShapes.bytes_inj h


namespace Ty
mutual
/-- As the trees of the memory. -/
def vt : Ty → VT
  | var n => .node 0 n ⟨#[]⟩ []
  | con c l => .node 1 0 c (vts l)
def vts : List Ty → List VT
  | [] => []
  | t :: l => vt t :: vts l
end
theorem vts_map : ∀ l, vts l = l.map vt
  | [] => rfl
  | t :: l => by rw [vts, vts_map l, List.map_cons]
theorem vts_len (l : List Ty) : (vts l).length = l.length := by rw [vts_map, List.length_map]
/-- What a variable's number and a name may be. -/
def op : Ty → Int | var _ => 0 | con _ _ => 1
def num : Ty → Int | var n => n | con _ _ => 0
def text : Ty → ByteArray | var _ => ⟨#[]⟩ | con c _ => c
def kids : Ty → List Ty | var _ => [] | con _ l => l
theorem vt_kind (t : Ty) : t.vt.kind = t.op := by cases t <;> rw [vt] <;> rfl
theorem vt_num (t : Ty) : t.vt.num = t.num := by cases t <;> rw [vt] <;> rfl
theorem vt_text (t : Ty) : t.vt.text = t.text := by cases t <;> rw [vt] <;> rfl
theorem vt_kids (t : Ty) : t.vt.kids = vts t.kids := by cases t <;> rw [vt] <;> rfl
end Ty
/-- The value of a type whose parts lie at ao. -/
def tval (t : Ty) (ao : Option Addr) (cap : Nat) : Value := .agg #[.int .i64 t.op, .int .i64 t.num, .string t.text, .slice ao t.kids.length cap]
theorem tval_vval (t : Ty) (ao : Option Addr) (cap : Nat) : vval t.vt ao cap = tval t ao cap := by
  unfold vval tval
  rw [t.vt_kind, t.vt_num, t.vt_text, t.vt_kids, Ty.vts_len]

/-- v reads as the type t, all of it in the blocks P. -/
def TyIs (w : World) (P : Nat → Prop) (t : Ty) (v : Value) : Prop := ValIs w P t.vt v
/-- The parts l lie at ao, from the j-th on. -/
def TysAt (w : World) (P : Nat → Prop) (l : List Ty) (ao : Option Addr) (j : Nat) : Prop := KidsAt w P (Ty.vts l) ao j
section
variable {w w' : World} {P Q : Nat → Prop} {t : Ty} {v : Value}
theorem TyIs.keep (h : TyIs w P t v) (hPQ : ∀ b, P b → Q b) (hc : ∀ p : Addr, P p.block → w'.cell? p = w.cell? p) : TyIs w' Q t v := ValIs.keep hPQ hc h
theorem TyIs.below {M : Nat} (h : TyIs w P t v) (hb : Below M w w') (hP : ∀ b, P b → b < M) : TyIs w' P t v := ValIs.below h hb hP
theorem TyIs.mono (h : TyIs w P t v) (hPQ : ∀ b, P b → Q b) : TyIs w Q t v := ValIs.mono h hPQ
theorem TyIs.chg {F : List Nat} (h : TyIs w P t v) (hc : Chg F w w') (hP : ∀ b, P b → b < w.heap.size ∧ b ∉ F) : TyIs w' P t v := ValIs.chg h hc hP
theorem TysAt.keep {l : List Ty} {ao : Option Addr} {j : Nat} (h : TysAt w P l ao j) (hPQ : ∀ b, P b → Q b) (hc : ∀ p : Addr, P p.block → w'.cell? p = w.cell? p) : TysAt w' Q l ao j := KidsAt.keep hPQ hc h
theorem TysAt.below {M : Nat} {l : List Ty} {ao : Option Addr} {j : Nat} (h : TysAt w P l ao j) (hb : Below M w w') (hP : ∀ b, P b → b < M) : TysAt w' P l ao j := h.keep (fun _ h => h) fun p hp => hb.cell (hP p.block hp)
theorem TysAt.mono {l : List Ty} {ao : Option Addr} {j : Nat} (h : TysAt w P l ao j) (hPQ : ∀ b, P b → Q b) : TysAt w Q l ao j := h.keep hPQ fun _ _ => rfl
theorem TysAt.chg {F : List Nat} {l : List Ty} {ao : Option Addr} {j : Nat} (h : TysAt w P l ao j) (hc : Chg F w w') (hP : ∀ b, P b → b < w.heap.size ∧ b ∉ F) : TysAt w' P l ao j :=
  h.keep (fun _ h => h) fun p hp => by
    have := hc.block p.block (hP p.block hp).1 (hP p.block hp).2
    unfold World.cell?; rw [this]
theorem TyIs.get (h : TyIs w P t v) : ∃ ao cap, v = tval t ao cap ∧ t.kids.length ≤ cap ∧ cap ≤ maxLen ∧ t.text.size ≤ maxLen ∧ (Lit.int .i64 t.num).wf = true ∧ (ao = none → cap = 0) ∧ TysAt w P t.kids ao 0 := by
  unfold TyIs at h
  rw [VT.eta t.vt] at h
  unfold ValIs at h
  obtain ⟨ao, cap, h1, h2, h3, h4, h5, h6, h7, h8⟩ := h
  rw [t.vt_kids] at h1 h2 h8
  rw [t.vt_num] at h1 h6
  rw [t.vt_text] at h1 h4
  rw [t.vt_kind] at h1
  rw [Ty.vts_len] at h1 h2
  exact ⟨ao, cap, h1, h2, h3, h4, h6, h7, h8⟩
theorem TyIs.mk {ao : Option Addr} {cap : Nat} (h2 : t.kids.length ≤ cap) (h3 : cap ≤ maxLen) (h4 : t.text.size ≤ maxLen) (h6 : (Lit.int .i64 t.num).wf = true) (h7 : ao = none → cap = 0) (h8 : TysAt w P t.kids ao 0) : TyIs w P t (tval t ao cap) := by
  unfold TyIs
  rw [VT.eta t.vt]
  unfold ValIs
  refine ⟨ao, cap, ?_, ?_, h3, ?_, ?_, ?_, h7, ?_⟩
  · rw [t.vt_kids, t.vt_num, t.vt_text, t.vt_kind, Ty.vts_len]; rfl
  · rw [t.vt_kids, Ty.vts_len]; exact h2
  · rw [t.vt_text]; exact h4
  · rw [t.vt_kind]; cases t <;> rfl
  · rw [t.vt_num]; exact h6
  · rw [t.vt_kids]; exact h8
theorem TyIs.form (h : TyIs w P t v) : ∃ ao cap, v = tval t ao cap := by obtain ⟨ao, cap, h, _⟩ := h.get; exact ⟨ao, cap, h⟩
theorem TyIs.var {n : Int} (h : TyIs w P (.var n) v) : ∃ ao cap, v = .agg #[.int .i64 0, .int .i64 n, .string ⟨#[]⟩, .slice ao 0 cap] ∧ cap ≤ maxLen ∧ (Lit.int .i64 n).wf = true ∧ (ao = none → cap = 0) := by
  obtain ⟨ao, cap, h1, _, h3, _, h6, h7, _⟩ := h.get
  exact ⟨ao, cap, h1, h3, h6, h7⟩
theorem TyIs.con {c : ByteArray} {l : List Ty} (h : TyIs w P (.con c l) v) : ∃ ao cap, v = .agg #[.int .i64 1, .int .i64 0, .string c, .slice ao l.length cap] ∧ l.length ≤ cap ∧ cap ≤ maxLen ∧ c.size ≤ maxLen ∧ (ao = none → cap = 0) ∧ TysAt w P l ao 0 := by
  obtain ⟨ao, cap, h1, h2, h3, h4, _, h7, h8⟩ := h.get
  exact ⟨ao, cap, h1, h2, h3, h4, h7, h8⟩
theorem TyIs.mk_var {n : Int} (h6 : (Lit.int .i64 n).wf = true) : TyIs w P (.var n) (.agg #[.int .i64 0, .int .i64 n, .string ⟨#[]⟩, .slice none 0 0]) :=
  TyIs.mk (t := .var n) (ao := none) (cap := 0) (Nat.le_refl _) (Nat.zero_le _) (Nat.zero_le _) h6 (fun _ => rfl) (by unfold TysAt; show KidsAt w P (Ty.vts []) none 0; rw [Ty.vts]; unfold KidsAt; trivial)
theorem TyIs.mk_con {c : ByteArray} {l : List Ty} {ao : Option Addr} {cap : Nat} (h2 : l.length ≤ cap) (h3 : cap ≤ maxLen) (h4 : c.size ≤ maxLen) (h7 : ao = none → cap = 0) (h8 : TysAt w P l ao 0) : TyIs w P (.con c l) (.agg #[.int .i64 1, .int .i64 0, .string c, .slice ao l.length cap]) :=
  TyIs.mk (t := .con c l) h2 h3 h4 (show (Lit.int .i64 0).wf = true by decide) h7 h8
theorem TysAt.nil {ao : Option Addr} {j : Nat} : TysAt w P [] ao j := by unfold TysAt; rw [Ty.vts]; unfold KidsAt; trivial
theorem TysAt.cells {l : List Ty} {b off j i : Nat} {u : Ty} (h : TysAt w P l (some ⟨b, off, none⟩) j) (hi : l[i]? = some u) : P b ∧ ∃ ao cap, w.cell? ⟨b, off + (j + i) * 4, none⟩ = some (.int .i64 u.op) ∧ w.cell? ⟨b, off + (j + i) * 4 + 1, none⟩ = some (.int .i64 u.num) ∧ w.cell? ⟨b, off + (j + i) * 4 + 2, none⟩ = some (.string u.text) ∧ w.cell? ⟨b, off + (j + i) * 4 + 3, none⟩ = some (.slice ao u.kids.length cap) ∧ TyIs w P u (tval u ao cap) := by
  have hi' : (Ty.vts l)[i]? = some u.vt := by rw [Ty.vts_map, List.getElem?_map, hi]; rfl
  obtain ⟨h1, ao, cap, h2, h3, h4, h5, h6⟩ := KidsAt.cells h hi'
  rw [u.vt_kind] at h2
  rw [u.vt_num] at h3
  rw [u.vt_text] at h4
  rw [u.vt_kids, Ty.vts_len] at h5
  have h6' : TyIs w P u (vval u.vt ao cap) := h6
  rw [tval_vval] at h6'
  exact ⟨h1, ao, cap, h2, h3, h4, h5, h6'⟩
theorem TysAt.addr {l : List Ty} {ao : Option Addr} {j i : Nat} {u : Ty} (h : TysAt w P l ao j) (hi : l[i]? = some u) : ∃ b off, ao = some ⟨b, off, none⟩ ∧ P b := by
  have hi' : (Ty.vts l)[i]? = some u.vt := by rw [Ty.vts_map, List.getElem?_map, hi]; rfl
  obtain ⟨b, off, _, _, _, _, h1, h2, _⟩ := KidsAt.get h hi'
  exact ⟨b, off, h1, h2⟩
end
end Go.Proofs.YthchkekegkhanaaDoor
/- A row of values that is being made. -/
namespace Go.Proofs.YthchkekegkhanaaDoor
open Go.RowKit Go.Maps

theorem infoK : (Tryd.prog.info? 25).map (fun i => (i.zero, i.size, i.bytes)) = some (some (.agg #[.int .i64 0, .int .i64 0, .string ⟨#[]⟩, .slice none 0 0]), 4, 56) := by kernel_rfl
theorem infoR : (Tryd.prog.info? 40).map (fun i => (i.zero, i.size, i.bytes)) = some (some (.agg #[.int .i64 0, .int .i64 0, .string ⟨#[]⟩, .slice none 0 0]), 4, 56) := by kernel_rfl

def tcell (t : Ty) (p : Option Addr × Nat) : List Value := [.int .i64 t.op, .int .i64 t.num, .string t.text, .slice p.1 t.kids.length p.2]
def tcells : List Ty → List (Option Addr × Nat) → List Value
  | t :: l, p :: ps => tcell t p ++ tcells l ps
  | _, _ => []
theorem tcells_length : ∀ {l : List Ty} {ps : List (Option Addr × Nat)}, ps.length = l.length → (tcells l ps).length = l.length * 4
  | [], [], _ => rfl
  | t :: l, p :: ps, h => by
    simp only [List.length_cons] at h
    rw [tcells, List.length_append, tcells_length (by omega)]; simp [tcell]; omega
theorem tcells_get : ∀ {l : List Ty} {ps : List (Option Addr × Nat)} {i r : Nat} {t : Ty} {p : Option Addr × Nat}, l[i]? = some t → ps[i]? = some p → r < 4 → (tcells l ps)[i * 4 + r]? = (tcell t p)[r]?
  | [], _, _, _, _, _, h, _, _ => by cases h
  | _ :: _, [], _, _, _, _, _, h, _ => by cases h
  | t :: l, p :: ps, 0, r, u, q, h, h2, hr => by
    rw [List.getElem?_cons_zero] at h h2; cases h; cases h2
    rw [tcells, Nat.zero_mul, Nat.zero_add, List.getElem?_append_left (by simp [tcell]; omega)]
  | t :: l, p :: ps, i + 1, r, u, q, h, h2, hr => by
    rw [List.getElem?_cons_succ] at h h2
    rw [tcells, List.getElem?_append_right (by simp [tcell]; omega), show (i + 1) * 4 + r - (tcell t p).length = i * 4 + r by simp [tcell]; omega]
    exact tcells_get h h2 hr
theorem tcells_snoc : ∀ {l : List Ty} {ps : List (Option Addr × Nat)} {t : Ty} {p : Option Addr × Nat}, ps.length = l.length → tcells (l ++ [t]) (ps ++ [p]) = tcells l ps ++ tcell t p
  | [], [], _, _, _ => by simp [tcells]
  | t :: l, q :: ps, u, p, h => by
    simp only [List.length_cons] at h
    rw [List.cons_append, List.cons_append, tcells, tcells, tcells_snoc (by omega), List.append_assoc]

/-- The converse of 'TysAt.cells'. -/
theorem TysAt.mk {w : World} {P : Nat → Prop} {ao : Option Addr} : ∀ {l : List Ty} {j : Nat}, (∀ i t, l[i]? = some t → ∃ b off x0 x1 x2 x3, ao = some ⟨b, off, none⟩ ∧ P b ∧ w.cell? ⟨b, off + (j + i) * 4, none⟩ = some x0 ∧ w.cell? ⟨b, off + (j + i) * 4 + 1, none⟩ = some x1 ∧ w.cell? ⟨b, off + (j + i) * 4 + 2, none⟩ = some x2 ∧ w.cell? ⟨b, off + (j + i) * 4 + 3, none⟩ = some x3 ∧ TyIs w P t (.agg #[x0, x1, x2, x3])) → TysAt w P l ao j
  | [], _, _ => TysAt.nil
  | t :: l, j, h => by
    unfold TysAt
    rw [Ty.vts]
    unfold KidsAt
    refine ⟨?_, TysAt.mk fun i u hu => ?_⟩
    · have := h 0 t rfl
      rwa [Nat.add_zero] at this
    · have := h (i + 1) u (by rw [List.getElem?_cons_succ]; exact hu)
      rwa [show j + (i + 1) = j + 1 + i by omega] at this

/-- v is a row of the values l, its block and all of theirs from base on; the row's block is none of theirs. -/
def TRow (T : TypeId) (w : World) (base : Nat) (v : Value) (l : List Ty) : Prop :=
  ∃ ps : List (Option Addr × Nat), ps.length = l.length ∧ RowZ w T 4 v l.length (tcells l ps) ∧ (∀ k, v.ownBlock = some k → base ≤ k) ∧
    ∀ (i : Nat) (t : Ty) (p : Option Addr × Nat), l[i]? = some t → ps[i]? = some p → TyIs w (fun b => base ≤ b ∧ b < w.heap.size ∧ v.ownBlock ≠ some b) t (tval t p.1 p.2)

section
variable {T : TypeId} {w w' : World} {base : Nat} {v : Value} {l : List Ty}
theorem TRow.nil (w : World) (base : Nat) : TRow T w base (.slice none 0 0) [] := ⟨[], rfl, RowZ.nil _ _ _, fun k h => by simp [Value.ownBlock] at h, fun i t p h => by cases h⟩
/-- New blocks, and turns elsewhere. -/
theorem TRow.below (h : TRow T w base v l) (hb : Below w.heap.size w w') : TRow T w' base v l := by
  obtain ⟨ps, h1, h2, h3, h4⟩ := h
  refine ⟨ps, h1, h2.below hb (fun k hk => h2.lt hk), h3, fun i t p ht hp => ?_⟩
  exact ((h4 i t p ht hp).below hb (fun b hb => hb.2.1)).mono fun b hb' => ⟨hb'.1, Nat.lt_of_lt_of_le hb'.2.1 hb.size, hb'.2.2⟩
theorem TRow.kids (h : TRow T w base v l) : ∃ ao cap, v = .slice ao l.length cap ∧ l.length ≤ cap ∧ cap ≤ maxLen ∧ (ao = none → cap = 0) ∧ TysAt w (fun b => base ≤ b ∧ b < w.heap.size) l ao 0 := by
  obtain ⟨ps, h1, h2, h3, h4⟩ := h
  obtain ⟨ao, cap, rfl, hle, hm, hn, hs⟩ := h2.form
  refine ⟨ao, cap, rfl, hle, hm, fun e => (hn e).2, TysAt.mk fun i t ht => ?_⟩
  have hil := (List.getElem?_eq_some_iff.1 ht).1
  obtain ⟨p, hp⟩ : ∃ p, ps[i]? = some p := ⟨_, List.getElem?_eq_getElem (by omega)⟩
  cases ao with
  | none => have := (hn rfl).1; omega
  | some a =>
    obtain ⟨g, rfl, hg, hgb⟩ := hs a rfl
    have hlen := tcells_length h1
    have c : ∀ r, r < 4 → w.cell? ⟨g, i * 4 + r, none⟩ = (tcell t p)[r]? := fun r hr => by
      rw [← tcells_get ht hp hr]
      exact h2.cellAt _ (by rw [hlen]; omega)
    refine ⟨g, 0, _, _, _, _, rfl, ⟨h3 g hgb, hg⟩, ?_, ?_, ?_, ?_, (h4 i t p ht hp).mono fun b hb => ⟨hb.1, hb.2.1⟩⟩
    · rw [Nat.zero_add, Nat.zero_add]; exact c 0 (by omega)
    · rw [Nat.zero_add, Nat.zero_add]; exact c 1 (by omega)
    · rw [Nat.zero_add, Nat.zero_add]; exact c 2 (by omega)
    · rw [Nat.zero_add, Nat.zero_add]; exact c 3 (by omega)
/-- Behind 'append(kids, k)': the new value's box is the block behind the heap. -/
theorem TRow.app {t : Ty} {p : Option Addr × Nat} {o : Obj} {g cap : Nat} {ps : List (Option Addr × Nat)} (h1 : ps.length = l.length) (h3 : ∀ k, v.ownBlock = some k → base ≤ k ∧ k < w.heap.size) (hbase : base ≤ w.heap.size)
    (h4 : ∀ (i : Nat) (t : Ty) (p : Option Addr × Nat), l[i]? = some t → ps[i]? = some p → TyIs w (fun b => base ≤ b ∧ b < w.heap.size ∧ v.ownBlock ≠ some b) t (tval t p.1 p.2))
    (ht : TyIs w (fun b => base ≤ b ∧ b < w.heap.size ∧ v.ownBlock ≠ some b) t (tval t p.1 p.2))
    (hr : RowZ w' T 4 (.slice (some ⟨g, 0, none⟩) (l.length + 1) cap) (l.length + 1) (tcells l ps ++ tcell t p)) (hg : (w.alloc o).grownBy w' v.ownBlock) (hl : v.ownBlock = some g ∨ g = (w.alloc o).heap.size) :
    TRow T w' base (.slice (some ⟨g, 0, none⟩) (l.length + 1) cap) (l ++ [t]) := by
  have hc : Chg v.ownBlock.toList w w' := ((Chg.refl _ w).alloc o).grown hg (fun k hk => .inl (by simp [hk]))
  have hsz := hc.size
  have hsz2 : w.heap.size + 1 ≤ w'.heap.size := by have := hg.size; simpa using this
  have hgl : g < w'.heap.size := hr.lt rfl
  have keep : ∀ {u : Ty} {x : Value}, TyIs w (fun b => base ≤ b ∧ b < w.heap.size ∧ v.ownBlock ≠ some b) u x → TyIs w' (fun b => base ≤ b ∧ b < w'.heap.size ∧ (Value.slice (some ⟨g, 0, none⟩) (l.length + 1) cap).ownBlock ≠ some b) u x := fun hv =>
    (hv.chg hc (fun b hb => ⟨hb.2.1, by simpa using hb.2.2⟩)).mono fun b hb => ⟨hb.1, by omega, by
      simp only [Value.ownBlock, ne_eq, Option.some.injEq]
      rintro rfl
      rcases hl with e | e
      · exact hb.2.2 e
      · simp at e; omega⟩
  refine ⟨ps ++ [p], by simp [h1], ?_, fun k hk => ?_, fun i u q hu hq => ?_⟩
  · rw [tcells_snoc h1, List.length_append]; exact hr
  · simp only [Value.ownBlock, Option.some.injEq] at hk
    subst hk
    rcases hl with e | e
    · exact (h3 _ e).1
    · simp at e; omega
  · by_cases hi : i < l.length
    · rw [List.getElem?_append_left hi] at hu
      rw [List.getElem?_append_left (by omega)] at hq
      exact keep (h4 i u q hu hq)
    · have : i = l.length := by
        have := (List.getElem?_eq_some_iff.1 hu).1
        simp at this; omega
      subst this
      rw [List.getElem?_append_right (Nat.le_refl _), Nat.sub_self] at hu
      rw [List.getElem?_append_right (by omega), h1, Nat.sub_self] at hq
      cases hu; cases hq
      exact keep ht
end
end Go.Proofs.YthchkekegkhanaaDoor
/- Boxes of four cells, and rows of types that grow. -/
namespace Go.Proofs.YthchkekegkhanaaDoor
open Go.RowKit Go.Maps
set_option linter.unusedVariables false

theorem below_drewN {B : Nat} {a w : World} (h : Below B a w) (n : Nat) : Below B a (w.drewN n) := ⟨h.os, h.tape, h.output, h.size, h.block⟩
theorem below_chg {w w' : World} (h : Below w.heap.size w w') : Chg [] w w' := ⟨h.os, h.tape, h.output, h.size, fun k hk _ => h.block k hk⟩
theorem hdr4_set {w : World} {p : Nat} {a b c d u : Value} {t : TypeId} {o : Nat} (h : w.heap[p]? = some (.cells #[a, b, c, d] t (0, 0))) : (w.setCell ⟨p, o, none⟩ u).heap[p]? = some (.cells (#[a, b, c, d].setIfInBounds o u) t (0, 0)) := by
  have hlt := lt_of_block h
  have h' : w.heap[p] = .cells #[a, b, c, d] t (0, 0) := by simpa [Array.getElem?_eq_getElem hlt] using h
  show (w.heap.modify p _)[p]? = _
  rw [Array.getElem?_eq_getElem (by simpa using hlt), Array.getElem_modify_self, h']
  rfl
theorem chg1_set (w : World) (p o : Nat) (u : Value) : Chg [p] w (w.setCell ⟨p, o, none⟩ u) := (Chg.refl [p] w).setCell (.inl (by simp)) u
theorem hdr4_cells {w : World} {q : Nat} {a b c d : Value} {t : TypeId} (h : w.heap[q]? = some (.cells #[a, b, c, d] t (0, 0))) : w.cell? ⟨q, 0, none⟩ = some a ∧ w.cell? ⟨q, 1, none⟩ = some b ∧ w.cell? ⟨q, 2, none⟩ = some c ∧ w.cell? ⟨q, 3, none⟩ = some d ∧ ∀ j, w.frozen? ⟨q, j, none⟩ = false :=
  ⟨by simp [World.cell?, h], by simp [World.cell?, h], by simp [World.cell?, h], by simp [World.cell?, h], fun j => by simp [World.frozen?, h]⟩
/-- The result's cells, written. -/
theorem four_ret {w : World} {H : Nat} {a b c d y0 y1 y2 y3 : Value} {t : TypeId} (h : w.heap[H]? = some (.cells #[a, b, c, d] t (0, 0))) :
    ((((w.setCell ⟨H, 0, none⟩ y0).setCell ⟨H, 1, none⟩ y1).setCell ⟨H, 2, none⟩ y2).setCell ⟨H, 3, none⟩ y3).heap[H]? = some (.cells #[y0, y1, y2, y3] t (0, 0)) ∧
    Chg [H] w ((((w.setCell ⟨H, 0, none⟩ y0).setCell ⟨H, 1, none⟩ y1).setCell ⟨H, 2, none⟩ y2).setCell ⟨H, 3, none⟩ y3) := by
  have h2 := hdr4_set (o := 0) (u := y0) h
  have h3 := hdr4_set (o := 1) (u := y1) (a := y0) (b := b) (c := c) (d := d) (h2.trans rfl)
  have h4 := hdr4_set (o := 2) (u := y2) (a := y0) (b := y1) (c := c) (d := d) (h3.trans rfl)
  have h5 := hdr4_set (o := 3) (u := y3) (a := y0) (b := y1) (c := y2) (d := d) (h4.trans rfl)
  refine ⟨h5.trans rfl, ?_⟩
  exact ((((Chg.refl [H] w).setCell (p := ⟨H, 0, none⟩) (.inl (by simp)) _).setCell (p := ⟨H, 1, none⟩) (.inl (by simp)) _).setCell (p := ⟨H, 2, none⟩) (.inl (by simp)) _).setCell (p := ⟨H, 3, none⟩) (.inl (by simp)) _
theorem later_box {w5 : World} {q : Nat} {a b c d : Value} {t : TypeId} (z : w5.heap[q]? = some (.cells #[a, b, c, d] t (0, 0))) (o : Obj) :
    ((w5.alloc o).cell? ⟨q, 0, none⟩ = some a ∧ (w5.alloc o).cell? ⟨q, 1, none⟩ = some b ∧ (w5.alloc o).cell? ⟨q, 2, none⟩ = some c ∧ (w5.alloc o).cell? ⟨q, 3, none⟩ = some d) ∧ ∀ j, (w5.alloc o).frozen? ⟨q, j, none⟩ = false := by
  have h : (w5.alloc o).heap[q]? = some (.cells #[a, b, c, d] t (0, 0)) := (heap_alloc_old _ _ (lt_of_block z)).trans z
  constructor
  · simp [World.cell?, h]
  · intro j; simp [World.frozen?, h]
theorem lt_of_cell {w : World} {q j : Nat} {v : Value} (h : w.cell? ⟨q, j, none⟩ = some v) : q < w.heap.size := by
  rcases Nat.lt_or_ge q w.heap.size with hlt | hge
  · exact hlt
  · unfold World.cell? at h; rw [Array.getElem?_eq_none hge] at h; cases h
theorem new_ne' (w : World) {q j : Nat} {v : Value} (h : w.cell? ⟨q, j, none⟩ = some v) (o : Obj) : (w.alloc o).cell? ⟨q, j, none⟩ = some v :=
  (((Below.refl w.heap.size w).alloc (Nat.le_refl _) o).cell (p := ⟨q, j, none⟩) (lt_of_cell h)).trans h
theorem cell_four_new (w : World) (a b c d : Value) (t : TypeId) : ∀ (j : Nat) (u : Value), [a, b, c, d][j]? = some u → (w.alloc (.cells #[a, b, c, d] t)).cell? (Addr.add ⟨w.heap.size, 0, none⟩ j) = some u := by
  intro j u hj
  have hlt := (List.getElem?_eq_some_iff.1 hj).1
  simp at hlt
  have e : (Addr.add ⟨w.heap.size, 0, none⟩ j) = ⟨w.heap.size, j, none⟩ := by unfold Addr.add; split <;> simp_all
  rw [e]
  have : j = 0 ∨ j = 1 ∨ j = 2 ∨ j = 3 := by omega
  rcases this with rfl | rfl | rfl | rfl <;> simpa using hj
theorem cell_four_new2 (w : World) (o : Obj) (a b c d : Value) (t : TypeId) : ∀ (j : Nat) (u : Value), [a, b, c, d][j]? = some u → ((w.alloc o).alloc (.cells #[a, b, c, d] t)).cell? (Addr.add ⟨w.heap.size + 1, 0, none⟩ j) = some u := by
  have := cell_four_new (w.alloc o) a b c d t
  simpa using this
theorem tcell_one (t : Ty) (p : Option Addr × Nat) : ∀ u ∈ tcell t p, u.oneCell' = true := by
  intro u hu
  simp only [tcell, List.mem_cons, List.not_mem_nil, or_false] at hu
  rcases hu with rfl | rfl | rfl | rfl <;> rfl
theorem RowZ.alloc {w : World} {e : TypeId} {sz n : Nat} {v : Value} {xs : List Value} (h : RowZ w e sz v n xs) (o : Obj) : RowZ (w.alloc o) e sz v n xs := h.chg ((Chg.refl [] w).alloc o) (fun _ _ => by simp)
theorem TyIs.into {w w' : World} {t : Ty} {v : Value} (h : TyIs w (fun b => b < w.heap.size) t v) (hb : Below w.heap.size w w') : TyIs w' (fun b => b < w'.heap.size) t v := (h.below hb (fun b hb => hb)).mono (fun _ hx => Nat.lt_of_lt_of_le hx hb.size)

/-- The row has grown in place, or lies in a new block. -/
def TStep (w : World) (v : Value) (w' : World) (v' : Value) : Prop := Chg v.ownBlock.toList w w' ∧ (v'.ownBlock = v.ownBlock ∨ ∃ j, v'.ownBlock = some j ∧ w.heap.size ≤ j)

/-- A row of types to which one is appended: w is the world in which the type's four cells lie. -/
theorem TRow.grown {T : TypeId} {w w' : World} {base g cap : Nat} {v : Value} {l : List Ty} {ps : List (Option Addr × Nat)} {t : Ty} {p : Option Addr × Nat} (h1 : ps.length = l.length) (h3 : ∀ k, v.ownBlock = some k → base ≤ k) (hbase : base ≤ w.heap.size)
    (h4 : ∀ (i : Nat) (t : Ty) (p : Option Addr × Nat), l[i]? = some t → ps[i]? = some p → TyIs w (fun b => base ≤ b ∧ b < w.heap.size ∧ v.ownBlock ≠ some b) t (tval t p.1 p.2))
    (hlt : ∀ k, v.ownBlock = some k → k < w.heap.size)
    (ht : TyIs w (fun b => base ≤ b ∧ b < w.heap.size ∧ v.ownBlock ≠ some b) t (tval t p.1 p.2))
    (hr : RowZ w' T 4 (.slice (some ⟨g, 0, none⟩) (l.length + 1) cap) (l.length + 1) (tcells l ps ++ tcell t p)) (hg : w.grownBy w' v.ownBlock) (hl : v.ownBlock = some g ∨ g = w.heap.size) :
    TRow T w' base (.slice (some ⟨g, 0, none⟩) (l.length + 1) cap) (l ++ [t]) ∧ TStep w v w' (.slice (some ⟨g, 0, none⟩) (l.length + 1) cap) := by
  have hc : Chg v.ownBlock.toList w w' := (Chg.refl _ w).grown hg (fun k hk => .inl (by simp [hk]))
  have hsz := hc.size
  have hgl : g < w'.heap.size := hr.lt rfl
  have keep : ∀ {u : Ty} {x : Value}, TyIs w (fun b => base ≤ b ∧ b < w.heap.size ∧ v.ownBlock ≠ some b) u x → TyIs w' (fun b => base ≤ b ∧ b < w'.heap.size ∧ (Value.slice (some ⟨g, 0, none⟩) (l.length + 1) cap).ownBlock ≠ some b) u x := fun hv =>
    (hv.chg hc (fun b hb => ⟨hb.2.1, by simpa using hb.2.2⟩)).mono fun b hb => ⟨hb.1, by omega, by
      simp only [Value.ownBlock, ne_eq, Option.some.injEq]
      rintro rfl
      rcases hl with e | e
      · exact hb.2.2 e
      · omega⟩
  refine ⟨⟨ps ++ [p], by simp [h1], ?_, fun k hk => ?_, fun i u q hu hq => ?_⟩, hc, ?_⟩
  · rw [tcells_snoc h1, List.length_append]; exact hr
  · simp only [Value.ownBlock, Option.some.injEq] at hk
    subst hk
    rcases hl with e | e
    · exact h3 _ e
    · omega
  · by_cases hi : i < l.length
    · rw [List.getElem?_append_left hi] at hu
      rw [List.getElem?_append_left (by omega)] at hq
      exact keep (h4 i u q hu hq)
    · have : i = l.length := by
        have := (List.getElem?_eq_some_iff.1 hu).1
        simp at this; omega
      subst this
      rw [List.getElem?_append_right (Nat.le_refl _), Nat.sub_self] at hu
      rw [List.getElem?_append_right (by omega), h1, Nat.sub_self] at hq
      cases hu; cases hq
      exact keep ht
  · rcases hl with e | e
    · exact .inl e.symm
    · exact .inr ⟨g, rfl, by omega⟩

section
variable {w : World} {ops : Array Oper} {o : Oper} {a : Act} {Q : Exit → Act → World → Prop}
/-- 'append(l, t)', in a region that goes in order. -/
theorem wpList_appt {rest : List Oper} (hgd : o.guard = none) (s x : Operand) (L T : TypeId) (ho : o.op = .call { callee := .builtin .append, args := #[s, x], argTypes := #[L, L] })
    (hT : Tryd.prog.underlying L = some (.slice T)) (hi : (Tryd.prog.info? T).map (fun i => (i.zero, i.size, i.bytes)) = some (some (.agg #[.int .i64 0, .int .i64 0, .string ⟨#[]⟩, .slice none 0 0]), 4, 56))
    {base : Nat} {v : Value} {l : List Ty} (hs : a.eval s = v) (hr : TRow T w base v l) {t : Ty} {p : Option Addr × Nat} {ad : Addr} {c : Nat} (hx : a.eval x = .slice (some ad) 1 c)
    (hnews : ∀ j u, (tcell t p)[j]? = some u → w.cell? (ad.add j) = some u) (ht : TyIs w (fun b => base ≤ b ∧ b < w.heap.size ∧ v.ownBlock ≠ some b) t (tval t p.1 p.2)) (hN : base ≤ w.heap.size) (h63 : l.length ≤ 1000000)
    (h : ∀ g cap w', TRow T w' base (.slice (some ⟨g, 0, none⟩) (l.length + 1) cap) (l ++ [t]) → TStep w v w' (.slice (some ⟨g, 0, none⟩) (l.length + 1) cap) → wpList Tryd.prog ops Q rest (a.put o.dst (.slice (some ⟨g, 0, none⟩) (l.length + 1) cap)) w') : wpList Tryd.prog ops Q (o :: rest) a w := by
  obtain ⟨ps, k1, k2, k3, k4⟩ := hr
  refine wpList_appz w hgd s x L ho T _ 4 56 hT hi rfl (by decide) v l.length (tcells l ps) hs k2 ad 1 c (tcell t p) hx (by omega) rfl hnews (tcell_one _ _) (by omega) (by omega) ?_
  intro g cap w' hr' hg hl
  obtain ⟨n1, n2⟩ := TRow.grown k1 k3 hN k4 (fun k hk => k2.lt hk) ht hr' hg hl
  exact h g cap w' n1 n2
/-- .. at a step of a region that draws its order. -/
theorem step_appt {K : Act → World → Prop} {E : Prop} (hgd : o.guard = none) (s x : Operand) (L T : TypeId) (ho : o.op = .call { callee := .builtin .append, args := #[s, x], argTypes := #[L, L] })
    (hT : Tryd.prog.underlying L = some (.slice T)) (hi : (Tryd.prog.info? T).map (fun i => (i.zero, i.size, i.bytes)) = some (some (.agg #[.int .i64 0, .int .i64 0, .string ⟨#[]⟩, .slice none 0 0]), 4, 56))
    {base : Nat} {v : Value} {l : List Ty} (hs : a.eval s = v) (hr : TRow T w base v l) {t : Ty} {p : Option Addr × Nat} {ad : Addr} {c : Nat} (hx : a.eval x = .slice (some ad) 1 c)
    (hnews : ∀ j u, (tcell t p)[j]? = some u → w.cell? (ad.add j) = some u) (ht : TyIs w (fun b => base ≤ b ∧ b < w.heap.size ∧ v.ownBlock ≠ some b) t (tval t p.1 p.2)) (hN : base ≤ w.heap.size) (h63 : l.length ≤ 1000000)
    (h : ∀ g cap w', TRow T w' base (.slice (some ⟨g, 0, none⟩) (l.length + 1) cap) (l ++ [t]) → TStep w v w' (.slice (some ⟨g, 0, none⟩) (l.length + 1) cap) → K (a.put o.dst (.slice (some ⟨g, 0, none⟩) (l.length + 1) cap)) w') : if Region.wanted o (yielded ops a.tmps) = true then Oper.wp Tryd.prog o a w K Q else E := by
  obtain ⟨ps, k1, k2, k3, k4⟩ := hr
  obtain ⟨i0, hi, hz0, hz1, hz2⟩ := info_parts hi
  refine step_append_lies w hgd s x L ho 0 T i0 _ 4 56 hT hi hz0 hz1 hz2 rfl (by decide) v l.length (tcells l ps) hs k2 ad 1 c (tcell t p) hx rfl hnews (tcell_one _ _) (by omega) (by unfold maxLen; omega) (by omega) (Nat.zero_le _) w.heap.size rfl ?_
  intro g cap w' hown' hgr hloc _
  obtain ⟨n1, n2⟩ := TRow.grown k1 k3 hN k4 (fun k hk => k2.lt hk) ht hown' hgr (by rcases hloc with e | e; exact .inl e; exact .inr e)
  exact h g cap w' n1 n2
theorem step_callw {P : Program} {K : Act → World → Prop} {E : Prop} {R : Ending → World → Prop} (hgd : o.guard = none) (f : FuncId) (args : Array Value)
    (hrun : (execOp a.eval o).run P w = .ok (.enter f args) w) (hc : Calls P f args w R) (hK : ∀ e w', R e w' → ∃ v, e = .returned v ∧ K (a.put o.dst v) w') : if Region.wanted o (yielded ops a.tmps) = true then Oper.wp P o a w K Q else E := by
  have hw : Region.wanted o (yielded ops a.tmps) = true := by simp [Region.wanted, hgd]
  rw [if_pos hw]
  unfold Oper.wp
  rw [hrun]
  simp only [Oper.upon]
  refine hc.mono ?_
  intro e w' h
  obtain ⟨v, rfl, hk⟩ := hK e w' h
  exact hk
end
end Go.Proofs.YthchkekegkhanaaDoor
