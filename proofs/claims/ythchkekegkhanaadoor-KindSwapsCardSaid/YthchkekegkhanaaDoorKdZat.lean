/- What lies in a block, through whatever happens elsewhere: steps for a search backwards. -/
import Derived.Test.YthchkekegkhanaaDoorKdTwo
namespace Go.Proofs.YthchkekegkhanaaDoor
open Go.RowKit Go.Maps
set_option linter.unusedVariables false

theorem ba {a w : World} (h : Below a.heap.size a w) (o : Obj) : Below a.heap.size a (w.alloc o) := h.alloc h.size o
theorem bd {a w : World} (h : Below a.heap.size a w) : Below a.heap.size a w.drew := h.drew
theorem bs {a w : World} (h : Below a.heap.size a w) {p : Addr} (hp : a.heap.size ≤ p.block) (u : Value) : Below a.heap.size a (w.setCell p u) := h.setCell hp u
theorem bt {a w w' : World} (h : Below a.heap.size a w) (h' : Below w.heap.size w w') : Below a.heap.size a w' := h.trans (h'.mono h.size)
theorem bcell {W w1 : World} (hb : Below W.heap.size W w1) : (∀ b o, b < W.heap.size → w1.cell? ⟨b, o, none⟩ = W.cell? ⟨b, o, none⟩) ∧ (∀ b o, b < W.heap.size → w1.frozen? ⟨b, o, none⟩ = W.frozen? ⟨b, o, none⟩) :=
  ⟨fun b o h => hb.cell (p := ⟨b, o, none⟩) h, fun b o h => hb.frozen (p := ⟨b, o, none⟩) h⟩
/-- What lies in a block. -/
def Zat (w : World) (b : Nat) (cs : Array Value) (t : TypeId) : Prop := w.heap[b]? = some (.cells cs t (0, 0))
theorem z_new {w : World} {b : Nat} {cs : Array Value} {t : TypeId} (hs : w.heap.size = b) : Zat (w.alloc (.cells cs t)) b cs t := by subst hs; exact heap_alloc_new w _
theorem z_old {w : World} {b : Nat} {cs : Array Value} {t : TypeId} {o : Obj} (h : Zat w b cs t) : Zat (w.alloc o) b cs t := (heap_alloc_old _ _ (lt_of_block h)).trans h
theorem z_drew {w : World} {b : Nat} {cs : Array Value} {t : TypeId} (h : Zat w b cs t) : Zat w.drew b cs t := h
theorem z_below {w w' : World} {b : Nat} {cs : Array Value} {t : TypeId} (hb : Below w.heap.size w w') (h : Zat w b cs t) : Zat w' b cs t := (hb.block _ (lt_of_block h)).trans h
theorem z_ne {w : World} {b c o : Nat} {cs : Array Value} {t : TypeId} {u : Value} (hne : b ≠ c) (h : Zat w b cs t) : Zat (w.setCell ⟨c, o, none⟩ u) b cs t := (Below.heap_setCell w ⟨c, o, none⟩ u b hne).trans h
/-- Four cells lie there. -/
def Four (w : World) (b : Nat) (t : TypeId) : Prop := ∃ x0 x1 x2 x3, Zat w b #[x0, x1, x2, x3] t
theorem z_set {w : World} {b : Nat} {u0 u1 u2 u3 : Value} {t : TypeId} (h : Four w b t) :
    Zat ((((w.setCell ⟨b, 0, none⟩ u0).setCell ⟨b, 1, none⟩ u1).setCell ⟨b, 2, none⟩ u2).setCell ⟨b, 3, none⟩ u3) b #[u0, u1, u2, u3] t := by
  obtain ⟨x0, x1, x2, x3, h⟩ := h
  exact (four_ret h).1
theorem f_new {w : World} {b : Nat} {x0 x1 x2 x3 : Value} {t : TypeId} (hs : w.heap.size = b) : Four (w.alloc (.cells #[x0, x1, x2, x3] t)) b t := ⟨x0, x1, x2, x3, z_new hs⟩
theorem f_old {w : World} {b : Nat} {t : TypeId} {o : Obj} (h : Four w b t) : Four (w.alloc o) b t := by obtain ⟨x0, x1, x2, x3, h⟩ := h; exact ⟨x0, x1, x2, x3, z_old h⟩
theorem f_drew {w : World} {b : Nat} {t : TypeId} (h : Four w b t) : Four w.drew b t := h
theorem f_below {w w' : World} {b : Nat} {t : TypeId} (hb : Below w.heap.size w w') (h : Four w b t) : Four w' b t := by obtain ⟨x0, x1, x2, x3, h⟩ := h; exact ⟨x0, x1, x2, x3, z_below hb h⟩
theorem f_nes {w : World} {b c : Nat} {t : TypeId} {u0 u1 u2 u3 : Value} (hne : b ≠ c) (h : Four w b t) : Four ((((w.setCell ⟨c, 0, none⟩ u0).setCell ⟨c, 1, none⟩ u1).setCell ⟨c, 2, none⟩ u2).setCell ⟨c, 3, none⟩ u3) b t := by
  obtain ⟨x0, x1, x2, x3, h⟩ := h
  exact ⟨x0, x1, x2, x3, z_ne hne (z_ne hne (z_ne hne (z_ne hne h)))⟩
theorem z_nes {w : World} {b c : Nat} {cs : Array Value} {t : TypeId} {u0 u1 u2 u3 : Value} (hne : b ≠ c) (h : Zat w b cs t) : Zat ((((w.setCell ⟨c, 0, none⟩ u0).setCell ⟨c, 1, none⟩ u1).setCell ⟨c, 2, none⟩ u2).setCell ⟨c, 3, none⟩ u3) b cs t :=
  z_ne hne (z_ne hne (z_ne hne (z_ne hne h)))
section
variable {w w' : World} {A B c o : Nat} {x : Ty} {v u : Value} {ob : Obj}
theorem ty_out {n : Nat} (h : TyIs w (fun b => n ≤ b ∧ b < B) x v) : ∃ A, Hid (A = n) ∧ Hid (TyIs w (fun b => A ≤ b ∧ b < B) x v) := ⟨n, rfl, h⟩
theorem ty_set (hne : c < A ∨ B ≤ c) (h : TyIs w (fun b => A ≤ b ∧ b < B) x v) : TyIs (w.setCell ⟨c, o, none⟩ u) (fun b => A ≤ b ∧ b < B) x v :=
  h.keep (fun _ h => h) fun p hp => World.cell?_of_block (Below.heap_setCell w ⟨c, o, none⟩ u p.block (by rintro e; simp only at e; omega))
theorem ty_sets {u0 u1 u2 u3 : Value} (hne : c < A ∨ B ≤ c) (h : TyIs w (fun b => A ≤ b ∧ b < B) x v) : TyIs ((((w.setCell ⟨c, 0, none⟩ u0).setCell ⟨c, 1, none⟩ u1).setCell ⟨c, 2, none⟩ u2).setCell ⟨c, 3, none⟩ u3) (fun b => A ≤ b ∧ b < B) x v :=
  ty_set hne (ty_set hne (ty_set hne (ty_set hne h)))
theorem ty_new (hs : B ≤ w.heap.size) (h : TyIs w (fun b => A ≤ b ∧ b < B) x v) : TyIs (w.alloc ob) (fun b => A ≤ b ∧ b < B) x v := h.below ((Below.refl _ _).alloc (Nat.le_refl _) _) (fun b hb => by omega)
theorem ty_drew (h : TyIs w (fun b => A ≤ b ∧ b < B) x v) : TyIs w.drew (fun b => A ≤ b ∧ b < B) x v := h.keep (fun _ h => h) fun _ _ => by simp
theorem ty_below (hs : B ≤ w.heap.size) (hb : Below w.heap.size w w') (h : TyIs w (fun b => A ≤ b ∧ b < B) x v) : TyIs w' (fun b => A ≤ b ∧ b < B) x v := h.below hb (fun b hb => by omega)
end
/-- Types all whose blocks are there. -/
def TyOf (w : World) (t : Ty) (v : Value) : Prop := TyIs w (fun b => b < w.heap.size) t v
theorem TyOf.up {w w' : World} {t : Ty} {v : Value} (h : TyOf w t v) (hb : Below w.heap.size w w') : TyOf w' t v := (h.below hb (fun b hb => hb)).mono fun b hb' => Nat.lt_of_lt_of_le hb' hb.size
theorem TyOf.new {w' : World} {n : Nat} {t : Ty} {v : Value} (h : TyIs w' (fun b => n ≤ b ∧ b < w'.heap.size) t v) : TyOf w' t v := h.mono fun b hb => hb.2
end Go.Proofs.YthchkekegkhanaaDoor
