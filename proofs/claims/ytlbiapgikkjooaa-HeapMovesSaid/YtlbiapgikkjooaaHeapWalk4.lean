/- What the calls of a heap come to, fourth part: moving one word, with what has been copied so far. -/
import Derived.Test.YtlbiapgikkjooaaHeapWalk3
namespace Go.Proofs.Ytlbiapgikkjooaa
open Go.RowKit Go.Maps Hp
set_option linter.unusedSimpArgs false
set_option linter.unusedVariables false
set_option linter.unusedSectionVars false

/-- The copier's state: what has been copied, and where it lies: in blocks from N on. -/
structure Cop (A : AH) (φ : Nat → Nat) (w : World) (pc bt N : Nat) (vf vt : Value) (order : List Nat) (p : Nat) (to : List Int) : Prop where
  lies : ∃ nt th, CopIs w pc bt nt vf vt to th ∧ There A φ order th ∧ nt ≤ order.length
  inv : CInv A φ order p to
  le : p ≤ to.length
  pcN : N ≤ pc
  btN : N ≤ bt
  vtN : ∀ k, vt.ownBlock = some k → N ≤ k

section
variable {A : AH} {φ : Nat → Nat} {w w' : World} {pc bt N : Nat} {vf vt : Value} {order : List Nat} {p : Nat} {to : List Int} {cells stack : List Int} {pins : Int → Option Int}

theorem Cop.foot (h : Cop A φ w pc bt N vf vt order p to) {k : Nat} (hk : k ∈ cfoot pc bt vt) : N ≤ k := by
  rcases mem_cfoot.1 hk with e | e | e
  · exact e ▸ h.pcN
  · exact e ▸ h.btN
  · exact h.vtN k e
/-- Blocks below N may turn. -/
theorem Cop.chg {G : List Nat} (h : Cop A φ w pc bt N vf vt order p to) (hc : Chg G w w') (hd : ∀ k ∈ G, k < N) : Cop A φ w' pc bt N vf vt order p to := by
  obtain ⟨nt, th, h1, h2, h3⟩ := h.lies
  refine ⟨⟨nt, th, h1.chg hc (fun k hk hg => ?_), h2, h3⟩, h.inv, h.le, h.pcN, h.btN, h.vtN⟩
  have := h.foot hk
  have := hd k hg
  omega
theorem order_le (hinv : CInv A φ order p to) (hwf : A.Wf) : order.length ≤ to.length := by
  rw [hinv.len]
  have hr := hinv.reach
  clear hinv
  induction order with
  | nil => simp
  | cons i l ih =>
    rw [total_cons]
    have h1 := size_pos A i (hwf.there i (hr i (by simp)))
    have h2 := ih (fun j hj => hr j (by simp [hj]))
    simp only [List.length_cons]; omega

/-- Behind a call of move: the word of the copy. -/
def Moved (A : AH) (φ : Nat → Nat) (w : World) (pc bt N : Nat) (vf vt : Value) (order : List Nat) (p : Nat) (to : List Int) (r : Ref) (e : Ending) (w' : World) : Prop :=
  ∃ ext vt' to', e = .returned (.int .i64 (word (offs A (order ++ ext)) r)) ∧ Cop A φ w' pc bt N vf vt' (order ++ ext) p to' ∧ (r.obj = true → r.ix ∈ order ++ ext) ∧ to.length ≤ to'.length ∧ Chg (cfoot pc bt vt) w w' ∧ Within (cfoot pc bt vt) (cfoot pc bt vt') w.heap.size

theorem MoveEnd.moved {nt d : Nat} {th' : Int → Option Int} {to' : List Int} {x : Int} {e : Ending} {r : Ref} {ext : List Nat} (h : MoveEnd w pc bt nt vf vt to' th' x d e w') (hC : Cop A φ w pc bt N vf vt order p to) (hN : N ≤ w.heap.size)
    (hx : x = word (offs A (order ++ ext)) r) (hi : CInv A φ (order ++ ext) p to') (ht : There A φ (order ++ ext) th') (hr : r.obj = true → r.ix ∈ order ++ ext) (hl : to.length ≤ to'.length) (hd : d ≤ (order ++ ext).length) : Moved A φ w pc bt N vf vt order p to r e w' := by
  obtain ⟨he, vt', nt', h1, h2, h3, h4⟩ := h
  subst hx
  refine ⟨ext, vt', to', he, ⟨⟨nt', th', h1, ht, by omega⟩, hi, by have := hC.le; omega, hC.pcN, hC.btN, fun k hk => ?_⟩, hr, hl, h3, h4⟩
  rcases h4 k (mem_cfoot.2 (.inr (.inr hk))) with e | e
  · exact hC.foot e
  · omega

theorem move_any (hrep : Rep A φ cells stack pins) (hlim : A.limit ≤ 4194304) (hC : Cop A φ w pc bt N vf vt order p to) (hs : Row w 3 vf (ints cells)) (hvf : ∀ k, vf.ownBlock = some k → k < N) (hN : N ≤ w.heap.size) {r : Ref} (hr : A.Ok r) :
    Calls Try.prog 54 #[.pointer (some ⟨pc, 0, none⟩), .int .i64 (word φ r)] w (Moved A φ w pc bt N vf vt order p to r) := by
  obtain ⟨nt, th, hI, hT, hnt⟩ := hC.lies
  obtain ⟨ext, g1, g2, g3, g4, g5⟩ := move_ok hrep hC.inv hT hC.le hr
  have hcl : cells.length ≤ 4194304 := Nat.le_trans hrep.room hlim
  have htl : (order ++ ext).length ≤ 4194304 ∧ (moveTo cells (word φ r) to th).length ≤ 4194304 := by
    have h1 := order_le g1 hrep.wf
    have h2 := g1.len
    have h3 := hrep.total_le _ g1.nodup g1.reach
    omega
  have hol : (order ++ ext).length = order.length + ext.length := List.length_append
  cases hob : r.obj
  · have hw := word_imm φ hob
    refine (move_imm hI (word φ r) hw).mono fun e w' h => ?_
    have e1 : moveTo cells (word φ r) to th = to := by unfold moveTo; rw [if_pos hw]
    have e2 : moveTh (word φ r) to th = th := by unfold moveTh; rw [if_pos hw]
    have e3 : moveW (word φ r) to th = word φ r := by unfold moveW; rw [if_pos hw]
    rw [e1] at g1 g5
    rw [e2] at g2
    rw [e3] at g3
    exact h.moved hC hN g3 g1 g2 g4 g5 (by omega)
  · obtain ⟨hw, hw2⟩ := word_even φ hob
    have hi := ok_obj hr hob
    have hwo := word_obj φ hob
    cases hth : th (word φ r / 2) with
    | some b =>
      obtain ⟨i, hio, ha, hb⟩ := (hT _ _).1 hth
      have e1 : moveTo cells (word φ r) to th = to := by unfold moveTo; rw [if_neg hw, hth]
      have e2 : moveTh (word φ r) to th = th := by unfold moveTh; rw [if_neg hw, hth]
      have e3 : moveW (word φ r) to th = 2 * b := by unfold moveW; rw [if_neg hw, hth]; rfl
      rw [e1] at g1 g5
      rw [e2] at g2
      rw [e3] at g3
      rw [hw2] at hth
      subst hb
      have hφ := hrep.extent _ hi
      have h2 := offs_le A order i hio
      have h3 := hC.inv.len
      have h4 := hrep.total_le _ hC.inv.nodup hC.inv.reach
      rw [hwo]
      refine (move_old hI (φ r.ix) (offs A order i) (by omega) (by omega) hth).mono fun e w' h => ?_
      exact h.moved hC hN g3 g1 g2 g4 g5 (by omega)
    | none =>
      have hlt := hrep.wf.there _ hi
      obtain ⟨o, ho⟩ : ∃ o, A.objs[r.ix]? = some o := ⟨_, List.getElem?_eq_getElem hlt⟩
      obtain ⟨hH, hsz⟩ := hrep.obj _ _ hi ho
      obtain ⟨hk, _, _⟩ := hrep.wf.obj _ _ hi ho
      have hc : cells[φ r.ix]? = some (head o) := by
        unfold Holds at hH
        rw [length_enc] at hH
        have h0 : ((cells.drop (φ r.ix)).take o.size)[0]? = (enc φ o)[0]? := by rw [hH]
        rw [List.getElem?_take_of_lt (by unfold Ob.size; omega), List.getElem?_drop] at h0
        simpa [enc] using h0
      have hgd : cells.getD (φ r.ix) 0 = head o := by rw [List.getD_eq_getElem?_getD, hc]; rfl
      have hnd := need_head o hk
      have e0 : (word φ r / 2).toNat = φ r.ix := by rw [hw2]; simp
      have e1 : moveTo cells (word φ r) to th = to ++ (cells.drop (φ r.ix)).take o.size := by
        unfold moveTo; rw [if_neg hw, hth]; simp only []; rw [e0, hgd, Nat.add_comm, hnd]
      have e2 : moveTh (word φ r) to th = fun j => if j = (φ r.ix : Int) then some (to.length : Int) else th j := by
        unfold moveTh; rw [if_neg hw, hth]; simp only []; rw [hw2]
      have e3 : moveW (word φ r) to th = 2 * (to.length : Int) := by unfold moveW; rw [if_neg hw, hth]; rfl
      rw [e1] at g1 g5 htl
      rw [e2] at g2
      rw [e3] at g3
      rw [hw2] at hth
      have hsh := hs.shape
      rw [ints_length] at hsh
      rcases hsh with ⟨_, hn⟩ | ⟨g, cap, rfl, hcap, hcm, hgs⟩
      · have : cells.length = 0 := by rw [← ints_length, hn]; rfl
        omega
      have hgN := hvf g rfl
      have hext : 1 ≤ ext.length := by
        rcases Nat.lt_or_ge 0 ext.length with h | h
        · exact h
        · have : ext = [] := List.length_eq_zero_iff.1 (by omega)
          subst this
          have hin := g4 hob
          rw [List.append_nil] at hin
          have := (hT (φ r.ix) (offs A order r.ix)).2 ⟨r.ix, hin, rfl, rfl⟩
          rw [hth] at this; cases this
      rw [hwo]
      refine (move_new hI cells g cap (φ r.ix) rfl hcl hcap hcm ?_ ?_ o hc (head_is o hk (by omega)) hsz ?_ (by omega) hth).mono fun e w' h => ?_
      · intro j x hx
        have := hs.cellAt j (by rw [ints_length]; exact (List.getElem?_eq_some_iff.1 hx).1)
        rw [ints_get, hx] at this
        exact this
      · intro hm
        have := hC.foot hm
        omega
      · rw [List.length_append] at htl; omega
      · exact h.moved hC hN g3 g1 g2 g4 g5 (by omega)
end
end Go.Proofs.Ytlbiapgikkjooaa
