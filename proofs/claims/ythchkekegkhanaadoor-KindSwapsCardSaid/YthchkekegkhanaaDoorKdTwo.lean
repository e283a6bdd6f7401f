/- Two solvers, the program's and the reference's, with boxes and types beside them. -/
import Derived.Test.YthchkekegkhanaaDoorKdFresh
namespace Go.Proofs.YthchkekegkhanaaDoor
open Go.RowKit Go.Maps
set_option linter.unusedVariables false

theorem RefAt.aside {w w' : World} {q m : Nat} {F G : List Nat} {md : Int} {s : Int → Ty} (h : RefAt w q F m md s) (hc : Chg G w w') (hG : Few w G) (hd : ∀ k ∈ G, k ∉ F) : RefAt w' q F m md s := by
  obtain ⟨v, pr, L, h, rfl, hL⟩ := h
  have hs := hc.size
  have hn : ∀ k, k ∈ q :: v.ownBlock.toList → k ∉ G := fun k hk hg => hd k hg hk
  obtain ⟨ps, h1, h2, h3⟩ := h.row
  refine ⟨v, pr, L, ⟨(hc.block q (lt_of_block h.hdr) (hn q (by simp))).trans h.hdr, ⟨ps, h1, h2.chg hc (fun k hk => hn k (by simp [hk])), fun i x r hx hr => ?_⟩, h.sol, h.ne⟩, rfl, hL⟩
  exact (((h3 i x r hx hr).few hG).chg hc (fun b hb => ⟨hb.1.1, hb.2⟩)).mono fun b hb => ⟨Nat.lt_of_lt_of_le hb.1.1 hs, hb.1.2⟩
/-- Blocks of none of both. -/
def Fr (W : World) (p bm : Nat) (F : List Nat) : Nat → Prop := fun b => b < W.heap.size ∧ b ≠ p ∧ b ≠ bm ∧ b ∉ F
structure TwoAt (w W : World) (p bm n : Nat) (fr : Int) (s : Int → Ty) (q : Nat) (F : List Nat) (m : Nat) (md : Int) (s' : Int → Ty) (L : List (Nat × Array Value × TypeId)) (T : List (Ty × Value)) : Prop where
  sv : SolvAt (fun b => b ∉ F) W p bm n fr s
  rf : RefAt W q F m md s'
  hb : Below w.heap.size w W
  lo : w.heap.size ≤ p ∧ w.heap.size ≤ bm ∧ ∀ k ∈ F, w.heap.size ≤ k
  ap : p ∉ F ∧ bm ∉ F
  bx : ∀ x ∈ L, W.heap[x.1]? = some (.cells x.2.1 x.2.2 (0, 0)) ∧ x.1 ≠ p ∧ x.1 ≠ bm ∧ x.1 ∉ F
  ty : ∀ x ∈ T, TyIs W (Fr W p bm F) x.1 x.2
section
variable {w W W' : World} {p bm n n' q m m' : Nat} {fr fr' md md' : Int} {s s' s1 : Int → Ty} {F F' : List Nat} {L : List (Nat × Array Value × TypeId)} {T : List (Ty × Value)}
theorem TwoAt.below (h : TwoAt w W p bm n fr s q F m md s' L T) (hb : Below W.heap.size W W') : TwoAt w W' p bm n fr s q F m md s' L T :=
  ⟨h.sv.chg hb, h.rf.below hb, h.hb.trans (hb.mono h.hb.size), h.lo, h.ap, fun x hx => ⟨(hb.block _ (lt_of_block (h.bx x hx).1)).trans (h.bx x hx).1, (h.bx x hx).2⟩, fun x hx => ((h.ty x hx).below hb (fun b hb => hb.1)).mono fun b hb' => ⟨Nat.lt_of_lt_of_le hb'.1 hb.size, hb'.2⟩⟩
theorem TwoAt.step (h : TwoAt w W p bm n fr s q F m md s' L T) (hs : SolvAt (fun b => b ∉ F) W' p bm n' fr' s1) (hc : Chg [p, bm] W W') : TwoAt w W' p bm n' fr' s1 q F m md s' L T := by
  have hp : ∀ k ∈ [p, bm], k ∉ F := fun k hk => by
    simp only [List.mem_cons, List.not_mem_nil, or_false] at hk
    rcases hk with rfl | rfl
    · exact h.ap.1
    · exact h.ap.2
  refine ⟨hs, h.rf.aside hc h.sv.few hp, h.hb.trans (hc.below h.hb.size (fun k hk => by have := h.lo; simp at hk; omega)), h.lo, h.ap, fun x hx => ?_, fun x hx => ?_⟩
  · obtain ⟨h1, h2, h3, h4⟩ := h.bx x hx
    exact ⟨(hc.block _ (lt_of_block h1) (by simp [h2, h3])).trans h1, h2, h3, h4⟩
  · exact ((h.ty x hx).chg hc (fun b hb => ⟨hb.1, by simp [hb.2.1, hb.2.2.1]⟩)).mono fun b hb => ⟨Nat.lt_of_lt_of_le hb.1 hc.size, hb.2⟩
theorem TwoAt.rstep (h : TwoAt w W p bm n fr s q F m md s' L T) (hs : RefAt W' q F' m' md' s1) (hc : Chg F W W') (hF : Within F F' W.heap.size) : TwoAt w W' p bm n fr s q F' m' md' s1 L T := by
  have hsz := hc.size
  have hno : ∀ b, b < W.heap.size → b ∉ F → b ∉ F' := fun b h1 h2 h3 => by
    rcases hF b h3 with e | e
    · exact h2 e
    · omega
  have hl := h.sv.lt
  refine ⟨h.sv.beside hc hF h.ap.1 h.ap.2, hs, h.hb.trans (hc.below h.hb.size h.lo.2.2), ⟨h.lo.1, h.lo.2.1, fun k hk => ?_⟩, ⟨hno p hl.1 h.ap.1, hno bm hl.2.1 h.ap.2⟩, fun x hx => ?_, fun x hx => ?_⟩
  · rcases hF k hk with e | e
    · exact h.lo.2.2 k e
    · have := h.hb.size; omega
  · obtain ⟨h1, h2, h3, h4⟩ := h.bx x hx
    exact ⟨(hc.block _ (lt_of_block h1) h4).trans h1, h2, h3, hno _ (lt_of_block h1) h4⟩
  · exact ((h.ty x hx).chg hc (fun b hb => ⟨hb.1, hb.2.2.2⟩)).mono fun b hb => ⟨Nat.lt_of_lt_of_le hb.1 hsz, hb.2.1, hb.2.2.1, hno b hb.1 hb.2.2.2⟩
theorem TwoAt.box (h : TwoAt w W p bm n fr s q F m md s' L T) (cs : Array Value) (ty : TypeId) : TwoAt w (W.alloc (.cells cs ty)) p bm n fr s q F m md s' ((W.heap.size, cs, ty) :: L) T := by
  have hl := h.sv.lt
  have h' := h.below (W' := W.alloc (.cells cs ty)) ((Below.refl _ _).alloc (Nat.le_refl _) _)
  refine ⟨h'.sv, h'.rf, h'.hb, h'.lo, h'.ap, fun x hx => ?_, h'.ty⟩
  rcases List.mem_cons.1 hx with rfl | hx
  · exact ⟨heap_alloc_new W _, by show W.heap.size ≠ p; omega, by show W.heap.size ≠ bm; omega, fun hm => by have := h.rf.lt _ hm; omega⟩
  · exact h'.bx x hx
theorem TwoAt.less (h : TwoAt w W p bm n fr s q F m md s' L T) {L' : List (Nat × Array Value × TypeId)} {T' : List (Ty × Value)} (hL : ∀ x ∈ L', x ∈ L) (hT : ∀ x ∈ T', x ∈ T) : TwoAt w W p bm n fr s q F m md s' L' T' :=
  ⟨h.sv, h.rf, h.hb, h.lo, h.ap, fun x hx => h.bx x (hL x hx), fun x hx => h.ty x (hT x hx)⟩
theorem TwoAt.addTy (h : TwoAt w W p bm n fr s q F m md s' L T) {t : Ty} {v : Value} (ht : TyIs W (Fr W p bm F) t v) : TwoAt w W p bm n fr s q F m md s' L ((t, v) :: T) := by
  refine ⟨h.sv, h.rf, h.hb, h.lo, h.ap, h.bx, fun x hx => ?_⟩
  rcases List.mem_cons.1 hx with rfl | hx
  · exact ht
  · exact h.ty x hx
/-- What is new lies in none of both. -/
theorem TwoAt.new (h : TwoAt w W p bm n fr s q F m md s' L T) {t : Ty} {v : Value} (hb : Below W.heap.size W W') (ht : TyIs W' (fun b => W.heap.size ≤ b ∧ b < W'.heap.size) t v) : TyIs W' (Fr W' p bm F) t v := by
  have hl := h.sv.lt
  exact ht.mono fun b hb' => ⟨hb'.2, by have := hb'.1; omega, by have := hb'.1; omega, fun hm => by have := h.rf.lt _ hm; have := hb'.1; omega⟩
/-- What came in lies in none of both. -/
theorem TwoAt.old (h : TwoAt w W p bm n fr s q F m md s' L T) {t : Ty} {v : Value} {P : Nat → Prop} (ht : TyIs w P t v) (hP : ∀ b, P b → b < w.heap.size) : TyIs W (Fr W p bm F) t v := by
  have hl := h.lo
  exact (ht.below h.hb hP).mono fun b hb' => ⟨Nat.lt_of_lt_of_le (hP b hb') h.hb.size, by have := hP b hb'; omega, by have := hP b hb'; omega, fun hm => by have := hl.2.2 b hm; have := hP b hb'; omega⟩
theorem TwoAt.at4 (h : TwoAt w W p bm n fr s q F m md s' L T) {b : Nat} {a0 a1 a2 a3 : Value} {ty : TypeId} (hm : (b, #[a0, a1, a2, a3], ty) ∈ L) : W.cell? ⟨b, 0, none⟩ = some a0 ∧ W.cell? ⟨b, 1, none⟩ = some a1 ∧ W.cell? ⟨b, 2, none⟩ = some a2 ∧ W.cell? ⟨b, 3, none⟩ = some a3 := by
  obtain ⟨c0, c1, c2, c3, _⟩ := hdr4_cells (h.bx _ hm).1
  exact ⟨c0, c1, c2, c3⟩
theorem TwoAt.two {b b' : Nat} {a0 a1 a2 a3 c0 c1 c2 c3 : Value} {ty ty' : TypeId} (h : TwoAt w W p bm n fr s q F m md s' ((b, #[a0, a1, a2, a3], ty) :: (b', #[c0, c1, c2, c3], ty') :: L) T) :
    (W.cell? ⟨b', 0, none⟩ = some c0 ∧ W.cell? ⟨b', 1, none⟩ = some c1 ∧ W.cell? ⟨b', 2, none⟩ = some c2 ∧ W.cell? ⟨b', 3, none⟩ = some c3) ∧ (W.cell? ⟨b, 0, none⟩ = some a0 ∧ W.cell? ⟨b, 1, none⟩ = some a1 ∧ W.cell? ⟨b, 2, none⟩ = some a2 ∧ W.cell? ⟨b, 3, none⟩ = some a3) :=
  ⟨h.at4 (.tail _ (.head _)), h.at4 (.head _)⟩
theorem twoUnify (h : TwoAt w W p bm n fr s q F m md s' L T) (hn : n < 100000000) {a b : Ty} {va vb : Value} (ha : TyIs W (Fr W p bm F) a va) (hb : TyIs W (Fr W p bm F) b vb) (hsa : a.sz ≤ 100000) (hsb : b.sz ≤ 100000) :
    Calls Tryd.prog 13 #[.pointer (some ⟨p, 0, none⟩), va, vb] W fun e w' => e = .returned (.int .i64 (uni s a b).1) ∧ TwoAt w w' p bm (n + 10000) fr (uni s a b).2 q F m md s' L T := by
  refine (unify_any h.sv (fun b hb hm => by have := h.rf.lt _ hm; omega) hn a b va vb ha hb hsa hsb).mono ?_
  rintro e w' ⟨rfl, h1, h2⟩
  exact ⟨rfl, h.step h1 h2⟩
theorem twoRef (h : TwoAt w W p bm n fr s q F m md s' L T) (hn : m < 10000000) {a b : Ty} {va vb : Value} (ha : TyIs W (Fr W p bm F) a va) (hb : TyIs W (Fr W p bm F) b vb) :
    Calls Tryd.prog 18 #[.pointer (some ⟨q, 0, none⟩), va, vb] W fun e w' => e = .returned (.int .i64 (uni s' a b).1) ∧ ∃ F', TwoAt w w' p bm n fr s q F' (m + 10000) md (uni s' a b).2 L T := by
  refine (refUnify_any h.rf hn a b va vb (ha.mono fun b hb => ⟨hb.1, hb.2.2.2⟩) (hb.mono fun b hb => ⟨hb.1, hb.2.2.2⟩)).mono ?_
  rintro e w' ⟨rfl, F', h1, h2, h3⟩
  exact ⟨rfl, F', h.rstep h1 h2 h3⟩
end
end Go.Proofs.YthchkekegkhanaaDoor
