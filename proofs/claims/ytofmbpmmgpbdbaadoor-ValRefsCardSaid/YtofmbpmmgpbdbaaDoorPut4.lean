/- The program's put of every value in form. -/
import Derived.Test.YtofmbpmmgpbdbaaDoorPut3
namespace Go.Proofs.YtofmbpmmgpbdbaaDoor
open Go.RowKit Go.Maps Wr
set_option linter.unusedVariables false

set_option maxRecDepth 100000 in
theorem put_stop (t : VT) (vt : Value) (w : World) (P : Nat → Prop) (N : Nat) (v : Value) (b : List UInt8) (hv : ValIs w P t vt) (hrow : ByteRow w N v b) (hb : 16384 < b.length) :
    Calls Tryd.prog 29 #[v, vt] w (PutEnd w N v (t.put 16384 b)) := by
  obtain ⟨k0, na, sa, la⟩ := t
  unfold ValIs at hv
  obtain ⟨ao, cap, rfl, a1, a2, a3, a4, a5, a6, a7⟩ := hv
  have hpt : Hid ((VT.node k0 na sa la).put 16384 b = b) := by show _ = _; rw [VT.put_node, if_pos hb]
  have HR := Lib.hid hrow
  obtain ⟨ao0, cap0, rfl, hc0, hc1⟩ := hrow.form
  unfold maxLen at a2 hc1
  clear hrow a7
  have hb2 : (16384 : Int) < b.length := by omega
  go_enter Tryd.func29, Tryd.ntmps29
  go_wp2
  go_ret
  refine PutEnd.boxed (o := .cells #[.int .i64 k0, .int .i64 na, .string sa, .slice ao la.length cap] 24) ⟨_, rfl, ?_, OwnStep.refl _ _⟩ (fun k hk => HR.out.lt hk)
  rw [hpt.out]
  exact HR.out.below ((Below.refl _ _).alloc (Nat.le_refl _) _)

theorem put_walk : ∀ (k : Nat) (t : VT) (vt : Value) (w : World) (P : Nat → Prop) (d : Int) (N : Nat) (v : Value) (b : List UInt8), t.sz ≤ k → t.right d = true → ValIs w P t vt → (∀ x, P x → x < w.heap.size ∧ v.ownBlock ≠ some x) → ByteRow w N v b → N ≤ w.heap.size → b.length ≤ 100000 →
    Calls Tryd.prog 29 #[v, vt] w (PutEnd w N v (t.put 16384 b)) := by
  intro k
  induction k with
  | zero => intro t _ _ _ _ _ _ _ h; cases t; simp [VT.sz] at h
  | succ k ih =>
    intro t vt w P d N v b hk hr hv hP hrow hN hb
    by_cases hs : 16384 < b.length
    · exact put_stop t vt w P N v b hv hrow hs
    · obtain ⟨k0, na, sa, la⟩ := t
      unfold ValIs at hv
      obtain ⟨ao, cap, rfl, a1, a2, a3, a4, a5, a6, a7⟩ := hv
      have hs : b.length ≤ 16384 := by omega
      obtain ⟨h0, h6, _⟩ := fits_parts (VT.right_parts hr).1
      have h : k0 = 0 ∨ k0 = 1 ∨ k0 = 2 ∨ k0 = 3 ∨ k0 = 4 ∨ k0 = 5 ∨ k0 = 6 := by omega
      rcases h with rfl | rfl | rfl | rfl | rfl | rfl | rfl
      · exact put_0 k ih na sa la w P d N v b ao cap hk hr a1 a2 a7 hP hrow hN hs
      · exact put_1 k ih na sa la w P d N v b ao cap hk hr a1 a2 a7 hP hrow hN hs
      · exact put_2 k ih na sa la w P d N v b ao cap hk hr a1 a2 a7 hP hrow hN hs
      · exact put_3 k ih na sa la w P d N v b ao cap hk hr a1 a2 a7 hP hrow hN hs
      · exact put_4 k ih na sa la w P d N v b ao cap hk hr a1 a2 a7 hP hrow hN hs
      · exact put_5 k ih na sa la w P d N v b ao cap hk hr a1 a2 a7 hP hrow hN hs
      · exact put_6 k ih na sa la w P d N v b ao cap hk hr a1 a2 a7 hP hrow hN hs
end Go.Proofs.YtofmbpmmgpbdbaaDoor
