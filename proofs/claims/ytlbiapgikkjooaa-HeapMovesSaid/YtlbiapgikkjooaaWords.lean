/- HeapWords: the walk. -/
import Derived.Test.YtlbiapgikkjooaaHeaps
import Derived.Test.YtlbiapgikkjooaaEnd
namespace Go.Proofs.Ytlbiapgikkjooaa
open Go.RowKit Go.Maps Hp
set_option linter.unusedSimpArgs false
set_option linter.unusedVariables false
set_option linter.unusedSectionVars false

theorem refWrap_any (n : Int) (w : World) : Calls Try.prog 45 #[.int .i64 n] w fun e w' => e = .returned (.int .i64 (wr n)) ∧ w = w' := by
  have H : Hid (∀ u : Int, u = IntKind.u64.wrap (IntKind.u64.wrap n * 2) → wrap64 u / 2 = wr n) := fun u hu => by
    subst hu
    obtain ⟨k, h, h1, h2⟩ := wr_spec n
    unfold wrap64
    have e1 : ∀ x : Int, IntKind.u64.wrap x = x % 18446744073709551616 := fun x => rfl
    rw [e1, e1]
    omega
  go_enter Try.func45, Try.ntmps45
  go_wp2
  go_ret
  exact ⟨ret_int (H.out _ rfl), rfl⟩

theorem refImm_any (n : Int) (w : World) : Calls Try.prog 13 #[.int .i64 n] w fun e w' => e = .returned (.agg #[.bool false, .int .i64 (wr n)]) ∧ Below w.heap.size w w' := by
  go_enter Try.func13, Try.ntmps13
  go_wp2_with ((go_at_call 45; refine (refWrap_any _ _).mono ?_; rintro e w' ⟨rfl, rfl⟩))
  (try simp only [Exit.inBlock, Exit.then])
  refine bodyPost_ret (v := .agg #[.bool false, .int .i64 (wr n)]) ?_ rfl ⟨rfl, ?_⟩
  · unfold results
    go_simp
  · exact (Below.refl _ _).alloc (Nat.le_refl _) _

theorem run_refField (v : Int) (w : World) : (Instr.field 27 (.agg #[.bool false, .int .i64 v]) 1).run Try.prog w = .ok (.int .i64 v) w := by
  have h := Try.underlying27
  first
    | rfl
    | (simp [Instr.field, run_underlying h])
    | (unfold Instr.field; go_simp)

theorem wr_odd_inj {a b : Int} : (2 * a + 1 = 2 * b + 1) ↔ a = b := by omega

set_option maxRecDepth 100000 in
set_option maxHeartbeats 3200000 in
theorem words_walk (a b : Int) (w : World) : Calls Try.prog 3 #[.int .i64 a, .int .i64 b] w fun e w' => e = .returned (.bool true) ∧ Below w.heap.size w w' := by
  obtain ⟨x, hx⟩ : ∃ x, x = wr a := ⟨_, rfl⟩
  obtain ⟨y, hy⟩ : ∃ y, y = wr b := ⟨_, rfl⟩
  have hwx : wr x = x := by rw [hx]; exact wr_wr a
  have ha : ∀ w, Calls Try.prog 9 #[.int .i64 a] w fun e w' => e = .returned (.int .i64 (2 * x + 1)) ∧ w = w' := fun w => by rw [hx]; exact imm_any a w
  have hb : ∀ w, Calls Try.prog 9 #[.int .i64 b] w fun e w' => e = .returned (.int .i64 (2 * y + 1)) ∧ w = w' := fun w => by rw [hy]; exact imm_any b w
  have hc : ∀ w, Calls Try.prog 9 #[.int .i64 x] w fun e w' => e = .returned (.int .i64 (2 * x + 1)) ∧ w = w' := fun w => by have := imm_any x w; rwa [hwx] at this
  have ra : ∀ w, Calls Try.prog 13 #[.int .i64 a] w fun e w' => e = .returned (.agg #[.bool false, .int .i64 x]) ∧ Below w.heap.size w w' := fun w => by rw [hx]; exact refImm_any a w
  have rb : ∀ w, Calls Try.prog 13 #[.int .i64 b] w fun e w' => e = .returned (.agg #[.bool false, .int .i64 y]) ∧ Below w.heap.size w w' := fun w => by rw [hy]; exact refImm_any b w
  have HA := Lib.hid ha
  have HB := Lib.hid hb
  have HC := Lib.hid hc
  have RA := Lib.hid ra
  have RB := Lib.hid rb
  have i1 : ∀ w, Calls Try.prog 11 #[.int .i64 (2 * x + 1)] w fun e w' => e = .returned (.bool true) ∧ w = w' := fun w => isImm_true _ (by omega) w
  have i2 : ∀ w, Calls Try.prog 12 #[.int .i64 (2 * x + 1)] w fun e w' => e = .returned (.int .i64 x) ∧ w = w' := fun w => by have := int_any (2 * x + 1) w; rwa [show (2 * x + 1) / 2 = x by omega] at this
  have I1 := Lib.hid i1
  have I2 := Lib.hid i2
  clear ha hb hc ra rb hx hy hwx i1 i2
  have hf := run_refField
  have BW : Hid (Below w.heap.size w w) := Below.refl _ _
  rcases Decidable.em (x = y) with hxy | hxy
  · subst hxy
    go_enter Try.func3, Try.ntmps3
    go_wp2_with
      (first
       | ((go_at_call 10; refine (heaps_any _).mono ?_; rintro e w1 ⟨rfl, B1⟩; have BW1 := Lib.hid B1; clear B1))
       | ((go_at_call 11; refine (I1.out _).mono ?_; rintro e w' ⟨rfl, rfl⟩))
       | ((go_at_call 12; refine (I2.out _).mono ?_; rintro e w' ⟨rfl, rfl⟩))
       | ((go_at_call 9; refine (HA.out _).mono ?_; rintro e w' ⟨rfl, rfl⟩))
       | ((go_at_call 9; refine (HB.out _).mono ?_; rintro e w' ⟨rfl, rfl⟩))
       | ((go_at_call 9; refine (HC.out _).mono ?_; rintro e w' ⟨rfl, rfl⟩))
       | ((go_at_call 13; refine (RA.out w1).mono ?_; rintro e w2 ⟨rfl, B2⟩; have BW2 : Hid (Below w.heap.size w w2) := BW1.out.trans (B2.mono BW1.out.size); clear B2))
       | ((go_at_call 13; refine (RA.out w2).mono ?_; rintro e w3 ⟨rfl, B3⟩; have BW3 : Hid (Below w.heap.size w w3) := BW2.out.trans (B3.mono BW2.out.size); clear B3))
       | ((go_at_call 13; refine (RB.out w3).mono ?_; rintro e w4 ⟨rfl, B4⟩; have BW4 : Hid (Below w.heap.size w w4) := BW3.out.trans (B4.mono BW3.out.size); clear B4)))
    go_ret
    exact ⟨rfl, BW4.out⟩
  · have hq1 : ((2 * x + 1 : Int) == 2 * y + 1) = false := by simp; omega
    have hq2 : ¬ (2 * x + 1 : Int) = 2 * y + 1 := by omega
    have hq3 : (x == y) = false := by simp [hxy]
    go_enter Try.func3, Try.ntmps3
    go_wp2_with
      (first
       | ((go_at_call 10; refine (heaps_any _).mono ?_; rintro e w1 ⟨rfl, B1⟩; have BW1 := Lib.hid B1; clear B1))
       | ((go_at_call 11; refine (I1.out _).mono ?_; rintro e w' ⟨rfl, rfl⟩))
       | ((go_at_call 12; refine (I2.out _).mono ?_; rintro e w' ⟨rfl, rfl⟩))
       | ((go_at_call 9; refine (HA.out _).mono ?_; rintro e w' ⟨rfl, rfl⟩))
       | ((go_at_call 9; refine (HB.out _).mono ?_; rintro e w' ⟨rfl, rfl⟩))
       | ((go_at_call 9; refine (HC.out _).mono ?_; rintro e w' ⟨rfl, rfl⟩))
       | ((go_at_call 13; refine (RA.out w1).mono ?_; rintro e w2 ⟨rfl, B2⟩; have BW2 : Hid (Below w.heap.size w w2) := BW1.out.trans (B2.mono BW1.out.size); clear B2))
       | ((go_at_call 13; refine (RA.out w2).mono ?_; rintro e w3 ⟨rfl, B3⟩; have BW3 : Hid (Below w.heap.size w w3) := BW2.out.trans (B3.mono BW2.out.size); clear B3))
       | ((go_at_call 13; refine (RB.out w3).mono ?_; rintro e w4 ⟨rfl, B4⟩; have BW4 : Hid (Below w.heap.size w w4) := BW3.out.trans (B4.mono BW3.out.size); clear B4)))
    go_ret
    exact ⟨rfl, BW4.out⟩
end Go.Proofs.Ytlbiapgikkjooaa
