/- A heap whose stack is any row of words just now, while all that the heap A leads to is still there. -/
import Derived.Test.YtlbiapgikkjooaaBytes
namespace Go.Proofs.Ytlbiapgikkjooaa
open Go.RowKit Go.Maps Hp
set_option linter.unusedSimpArgs false
set_option linter.unusedVariables false
set_option linter.unusedSectionVars false

def MineR (N : Nat) (w0 : World) (p : Nat) (A : AH) (st : List Int) (φ : Nat → Nat) (m : Nat) (w : World) : Prop :=
  ∃ bp np vc vs cells pins, HeapIs w p bp np vc vs A.limit cells st pins ∧ Rep A φ cells (A.stack.map (word φ)) pins ∧ np ≤ m ∧ A.limit ≤ 4194304 ∧ (∀ k ∈ foot p bp vc vs, N ≤ k) ∧ Below N w0 w ∧ N ≤ w.heap.size
def MinedR (N : Nat) (w0 : World) (p : Nat) (A : AH) (st : List Int) (φ : Nat → Nat) (m : Nat) (v : Value) (e : Ending) (w : World) : Prop :=
  e = .returned v ∧ MineR N w0 p A st φ m w

namespace Hp
/-- An object's bytes. -/
def AH.bytesOf (A : AH) (r : Ref) : List UInt8 := if r.obj then ((A.objs[r.ix]?).map Ob.bytes).getD [] else []
end Hp

section
variable {N m : Nat} {w0 w : World} {p : Nat} {A : AH} {φ : Nat → Nat} {st : List Int}

theorem Mine.rows (h : Mine N w0 p A φ m w) : MineR N w0 p A (A.stack.map (word φ)) φ m w := by
  obtain ⟨F, ⟨bp, np, vc, vs, cells, stack, pins, h1, h2, rfl, h4, h5⟩, h6, h7, h8⟩ := h
  have e := h2.stack
  subst e
  exact ⟨bp, np, vc, vs, cells, pins, h1, h2, h4, h5, h6, h7, h8⟩
theorem MineR.mine (h : MineR N w0 p A st φ m w) {B : AH} (hobjs : B.objs = A.objs) (hlim : B.limit = A.limit) (hpins : B.pins = A.pins) (hst : st = B.stack.map (word φ)) (hr : ∀ r ∈ B.stack, A.Ok r) : Mine N w0 p B φ m w := by
  obtain ⟨bp, np, vc, vs, cells, pins, h1, h2, h4, h5, h6, h7, h8⟩ := h
  have h9 := h2.weaken hobjs hlim (fun r hr' => by
    rcases hr' with hr' | ⟨k, hk⟩
    · exact hr r hr'
    · exact h2.wf.ok_root (.inr ⟨k, by rw [← hpins]; exact hk⟩))
  have e : (fun k => (B.pins k).map (word φ)) = pins := by funext k; rw [hpins]; exact (h2.pins k).symm
  rw [e] at h9
  exact ⟨_, ⟨bp, np, vc, vs, cells, st, pins, by rw [hlim]; exact h1, by rw [hst]; exact h9, rfl, h4, by rw [hlim]; exact h5⟩, h6, h7, h8⟩
theorem MineR.below (h : MineR N w0 p A st φ m w) : Below N w0 w := by obtain ⟨bp, np, vc, vs, cells, pins, h1, h2, h4, h5, h6, h7, h8⟩ := h; exact h7
theorem MineR.wf (h : MineR N w0 p A st φ m w) : A.Wf := by obtain ⟨bp, np, vc, vs, cells, pins, h1, h2, h4, h5, h6, h7, h8⟩ := h; exact h2.wf
theorem MineR.later {w' : World} (h : MineR N w0 p A st φ m w) (hb : Below w.heap.size w w') : MineR N w0 p A st φ m w' := by
  obtain ⟨bp, np, vc, vs, cells, pins, h1, h2, h4, h5, h6, h7, h8⟩ := h
  exact ⟨bp, np, vc, vs, cells, pins, h1.below hb (fun k hk => h1.foot_lt hk), h2, h4, h5, h6, h7.trans (hb.mono h8), Nat.le_trans h8 hb.size⟩
theorem MineR.quiet (h : MineR N w0 p A st φ m w) {f : FuncId} {args : Array Value} {v : Value} {P : Program} (hc : Calls P f args w fun e w' => e = .returned v ∧ ∃ n, w' = w.drewN n) : Calls P f args w (MinedR N w0 p A st φ m v) :=
  hc.mono fun _ _ ⟨he, n, hw⟩ => ⟨he, by rw [hw]; exact h.later (((Chg.refl [] w).drewN n).below (Nat.le_refl _) (by simp))⟩
theorem MineR.stays (h : MineR N w0 p A st φ m w) {f : FuncId} {args : Array Value} {v : Value} {P : Program} (hc : Calls P f args w fun e w' => e = .returned v ∧ Below w.heap.size w w') : Calls P f args w (MinedR N w0 p A st φ m v) :=
  hc.mono fun _ _ ⟨he, hw⟩ => ⟨he, h.later hw⟩

theorem MineR.step {np' bp : Nat} {vc vs vc' vs' : Value} {cells : List Int} {st' : List Int} {pins : Int → Option Int} {w' : World} (h2 : Rep A φ cells (A.stack.map (word φ)) pins) (h4 : np' ≤ m) (h5 : A.limit ≤ 4194304) (h6 : ∀ k ∈ foot p bp vc vs, N ≤ k) (h7 : Below N w0 w) (h8 : N ≤ w.heap.size)
    (g1 : HeapIs w' p bp np' vc' vs' A.limit cells st' pins) (g2 : Chg (foot p bp vc vs) w w') (g3 : Within (foot p bp vc vs) (foot p bp vc' vs') w.heap.size) : MineR N w0 p A st' φ m w' :=
  ⟨bp, np', vc', vs', cells, pins, g1, h2, h4, h5, fun k hk => by rcases g3 k hk with e | e; exact h6 k e; omega, h7.trans (g2.below h8 h6), Nat.le_trans h8 g2.size⟩

theorem rows_push (h : MineR N w0 p A st φ m w) (hl : st.length < 1000000000) (x : Int) : Calls Try.prog 15 #[.pointer (some ⟨p, 0, none⟩), .int .i64 x] w (MinedR N w0 p A (st ++ [x]) φ m (.tuple #[])) := by
  obtain ⟨bp, np, vc, vs, cells, pins, h1, h2, h4, h5, h6, h7, h8⟩ := h
  refine (push_any w p bp np vc vs A.limit cells st pins h1 x hl).mono ?_
  rintro e w' ⟨he, vc', vs', g1, g2, g3⟩
  exact ⟨he, .step h2 h4 h5 h6 h7 h8 g1 g2 g3⟩
theorem rows_pop (h : MineR N w0 p A st φ m w) : Calls Try.prog 27 #[.pointer (some ⟨p, 0, none⟩)] w (MinedR N w0 p A (st.take (st.length - 1)) φ m (.int .i64 (topOf st 0))) := by
  obtain ⟨bp, np, vc, vs, cells, pins, h1, h2, h4, h5, h6, h7, h8⟩ := h
  refine (pop_any h1).mono ?_
  rintro e w' ⟨he, vc', vs', g1, g2, g3⟩
  exact ⟨he, .step h2 h4 h5 h6 h7 h8 g1 g2 g3⟩
theorem rows_drop (h : MineR N w0 p A st φ m w) (n : Int) : Calls Try.prog 17 #[.pointer (some ⟨p, 0, none⟩), .int .i64 n] w (MinedR N w0 p A (st.take (st.length - dropOf n)) φ m (.tuple #[])) := by
  obtain ⟨bp, np, vc, vs, cells, pins, h1, h2, h4, h5, h6, h7, h8⟩ := h
  refine (drop_any w p bp np vc vs A.limit cells st pins h1 n).mono ?_
  rintro e w' ⟨he, vc', vs', g1, g2, g3⟩
  exact ⟨he, .step h2 h4 h5 h6 h7 h8 g1 g2 g3⟩

theorem rows_kind (h : MineR N w0 p A st φ m w) {r : Ref} (hr : A.Ok r) {x : Int} (hx : x = word φ r) {v : Int} (hv : v = A.kindOf r) :
    Calls Try.prog 28 #[.pointer (some ⟨p, 0, none⟩), .int .i64 x] w fun e w' => e = .returned (.int .i64 v) ∧ ∃ n, w' = w.drewN n := by
  subst hx hv
  obtain ⟨bp, np, vc, vs, cells, pins, h1, h2, h4, h5, _⟩ := h
  cases ho : r.obj
  · unfold AH.kindOf; rw [ho, if_neg (by simp)]
    exact kind_imm w p _ (word_imm φ ho)
  · obtain ⟨o, q1, q2, q3, q4, q5, q6, q7, q8, q9, q10, q11⟩ := h2.parts hr ho h5
    unfold AH.kindOf; rw [ho, if_pos rfl, q1, word_obj φ ho]
    exact kind_obj h1 q8 _ o q3 (head_is o q4 q5)
theorem rows_size (h : MineR N w0 p A st φ m w) {r : Ref} (hr : A.Ok r) {x : Int} (hx : x = word φ r) {v : Int} (hv : v = A.sizeOf r) :
    Calls Try.prog 29 #[.pointer (some ⟨p, 0, none⟩), .int .i64 x] w fun e w' => e = .returned (.int .i64 v) ∧ ∃ n, w' = w.drewN n := by
  subst hx hv
  obtain ⟨bp, np, vc, vs, cells, pins, h1, h2, h4, h5, _⟩ := h
  cases ho : r.obj
  · unfold AH.sizeOf AH.fields; rw [ho, if_neg (by simp)]
    exact size_imm w p _ (word_imm φ ho)
  · obtain ⟨o, q1, q2, q3, q4, q5, q6, q7, q8, q9, q10, q11⟩ := h2.parts hr ho h5
    unfold AH.sizeOf; rw [q7, word_obj φ ho]
    cases hraw : o.raw
    · exact size_fields h1 q8 _ o q3 (head_is o q4 q5) hraw
    · rw [q6 hraw]; exact size_raw h1 q8 _ o q3 (head_is o q4 q5) hraw
theorem rows_field (h : MineR N w0 p A st φ m w) {r : Ref} (hr : A.Ok r) {x : Int} (hx : x = word φ r) (i : Int) {v : Int} (hv : v = word φ (A.fieldI r i)) :
    Calls Try.prog 25 #[.pointer (some ⟨p, 0, none⟩), .int .i64 x, .int .i64 i] w fun e w' => e = .returned (.int .i64 v) ∧ ∃ n, w' = w.drewN n := by
  subst hx hv
  obtain ⟨bp, np, vc, vs, cells, pins, h1, h2, h4, h5, _⟩ := h
  cases ho : r.obj
  · have e : word φ (A.fieldI r i) = 1 := by
      unfold AH.fieldI AH.field AH.fields; rw [ho]; simp [imm, word]
    rw [e]
    exact field_imm w p _ i (word_imm φ ho)
  · obtain ⟨o, q1, q2, q3, q4, q5, q6, q7, q8, q9, q10, q11⟩ := h2.parts hr ho h5
    rw [word_obj φ ho]
    by_cases hi : 0 ≤ i ∧ i < o.fields.length
    · obtain ⟨k, rfl⟩ : ∃ k : Nat, i = k := ⟨i.toNat, by omega⟩
      have hraw : o.raw = false := by
        cases e : o.raw
        · rfl
        · have := q6 e; rw [this] at hi; simp at hi; omega
      have hk : k < o.fields.length := by omega
      have e : A.fieldI r (k : Int) = o.fields[k] := by
        unfold AH.fieldI AH.field; rw [if_pos (by omega), q7, Int.toNat_natCast, List.getD_eq_getElem?_getD, List.getElem?_eq_getElem hk]; rfl
      rw [e]
      exact field_some h1 q8 _ o q3 (head_is o q4 q5) hraw k hk _ (q10 hraw k _ (List.getElem?_eq_getElem hk))
    · have e : word φ (A.fieldI r i) = 1 := by
        unfold AH.fieldI
        split
        · unfold AH.field; rw [q7, List.getD_eq_getElem?_getD, List.getElem?_eq_none (by omega)]; rfl
        · rfl
      rw [e]
      exact field_none h1 q8 _ o q3 (head_is o q4 q5) q6 i (by omega)
theorem rows_bytes (h : MineR N w0 p A st φ m w) {r : Ref} (hr : A.Ok r) {x : Int} (hx : x = word φ r) {v : ByteArray} (hv : v = ⟨(A.bytesOf r).toArray⟩) :
    Calls Try.prog 30 #[.pointer (some ⟨p, 0, none⟩), .int .i64 x] w fun e w' => e = .returned (.string v) ∧ Below w.heap.size w w' := by
  subst hx hv
  obtain ⟨bp, np, vc, vs, cells, pins, h1, h2, h4, h5, _⟩ := h
  have hq : ∀ {f : FuncId} {args : Array Value} {v : Value} {P : Program}, Calls P f args w (fun e w' => e = .returned v ∧ ∃ n, w' = w.drewN n) → Calls P f args w (fun e w' => e = .returned v ∧ Below w.heap.size w w') := fun hc =>
    hc.mono fun _ _ ⟨he, n, hw⟩ => ⟨he, by rw [hw]; exact ((Chg.refl [] w).drewN n).below (Nat.le_refl _) (by simp)⟩
  cases ho : r.obj
  · unfold AH.bytesOf; rw [ho, if_neg (by simp)]
    exact hq (bytes_imm _ (word_imm φ ho))
  · obtain ⟨o, q1, q2, q3, q4, q5, q6, q7, q8, q9, q10, q11⟩ := h2.parts hr ho h5
    unfold AH.bytesOf; rw [ho, if_pos rfl, q1, word_obj φ ho]
    cases hraw : o.raw
    · have := (h2.wf.obj _ _ q2 q1).2.2 hraw
      simp only [Option.map_some, Option.getD_some, this]
      exact hq (bytes_fields h1 q8 _ o q3 (head_is o q4 q5) hraw)
    · refine bytes_raw h1 q8 _ o q3 (head_is o q4 q5) hraw ?_
      have e : enc φ o = enc (fun _ => 0) o := by unfold enc body; rw [if_pos hraw, if_pos hraw]
      rw [← e]; exact q11
end
end Go.Proofs.Ytlbiapgikkjooaa
