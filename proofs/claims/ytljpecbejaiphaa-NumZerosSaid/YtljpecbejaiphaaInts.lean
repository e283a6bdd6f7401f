/- What the functions on integers come to: each call returns the number that the plain words say, and leaves the world alone. -/
import Derived.Test.YtljpecbejaiphaaProg
import Derived.Test.YtljpecbejaiphaaPlain
import Derived.WalkKit
import Derived.WalkLawsBesides
import Derived.Lib.Hide
import Derived.Deep.QuietTactic
import Derived.BigQuiet
namespace Go.Proofs.Ytljpecbejaiphaa
open Go.RowKit

theorem ret_int {k : IntKind} {a b : Int} (h : a = b) : Ending.returned (.int k a) = .returned (.int k b) := by rw [h]

theorem qs {P : Program} {f : FuncId} {args : Array Value} {w : World} {n : Nat} {v : Value}
    (h : Calls P f args (w.drewN n) fun e w' => e = .returned v ∧ w.drewN n = w') : Calls P f args (w.drewN n) fun e w'' => e = .returned v ∧ ∃ m, w'' = w.drewN m :=
  h.mono fun _ _ ⟨he, hm⟩ => ⟨he, n, hm.symm⟩

theorem wrap_any (n : Int) (w : World) : Calls Try.prog 11 #[.int .i64 n] w fun e w' => e = .returned (.int .i64 (wr n)) ∧ w = w' := by
  go_enter Try.func11, Try.ntmps11
  go_wp2
  go_ret
  exact ⟨ret_int (shl_shr n), rfl⟩

theorem rwrap_any (n : Int) (w : World) : Calls Try.prog 13 #[.int .i64 n] w fun e w' => e = .returned (.int .i64 (wr n)) ∧ w = w' := by
  go_enter Try.func13, Try.ntmps13
  go_wp2
  go_ret
  exact ⟨ret_int (shl_shr_u n), rfl⟩

theorem add_any (a b : Int) (w : World) : Calls Try.prog 14 #[.int .i64 a, .int .i64 b] w fun e w' => e = .returned (.int .i64 (wr (a + b))) ∧ w = w' := by
  go_enter Try.func14, Try.ntmps14
  go_wp2_with (go_at_call 11; refine (wrap_any _ _).mono ?_; rintro e w' ⟨rfl, rfl⟩)
  go_ret
  exact ⟨ret_int (wr_wrap64 _), rfl⟩

theorem sub_any (a b : Int) (w : World) : Calls Try.prog 15 #[.int .i64 a, .int .i64 b] w fun e w' => e = .returned (.int .i64 (wr (a - b))) ∧ w = w' := by
  go_enter Try.func15, Try.ntmps15
  go_wp2_with (go_at_call 11; refine (wrap_any _ _).mono ?_; rintro e w' ⟨rfl, rfl⟩)
  go_ret
  exact ⟨ret_int (wr_wrap64 _), rfl⟩

theorem mul_any (a b : Int) (w : World) : Calls Try.prog 16 #[.int .i64 a, .int .i64 b] w fun e w' => e = .returned (.int .i64 (wr (a * b))) ∧ w = w' := by
  go_enter Try.func16, Try.ntmps16
  go_wp2_with (go_at_call 11; refine (wrap_any _ _).mono ?_; rintro e w' ⟨rfl, rfl⟩)
  go_ret
  exact ⟨ret_int (wr_wrap64 _), rfl⟩

theorem div_nought (a b : Int) (hb : (wr b == 0) = true) (w : World) : Calls Try.prog 18 #[.int .i64 a, .int .i64 b] w fun e w' => e = .returned (.tuple #[.int .i64 0, .int .i64 1]) ∧ w = w' := by
  go_enter Try.func18, Try.ntmps18
  go_wp2_with (go_at_call 11; refine (wrap_any _ _).mono ?_; rintro e w' ⟨rfl, rfl⟩)
  go_ret2
  exact ⟨rfl, rfl⟩

theorem div_some (a b : Int) (hb : (wr b == 0) = false) (w : World) : Calls Try.prog 18 #[.int .i64 a, .int .i64 b] w fun e w' => e = .returned (.tuple #[.int .i64 (wr ((wr a).tdiv (wr b))), .int .i64 0]) ∧ w = w' := by
  have hz : ¬ wr b = 0 := by simpa using hb
  go_enter Try.func18, Try.ntmps18
  go_wp2_with (go_at_call 11; refine (wrap_any _ _).mono ?_; rintro e w' ⟨rfl, rfl⟩)
  go_ret2
  exact ⟨by simp [wr_wrap64], rfl⟩

theorem rem_nought (a b : Int) (hb : (wr b == 0) = true) (w : World) : Calls Try.prog 19 #[.int .i64 a, .int .i64 b] w fun e w' => e = .returned (.tuple #[.int .i64 0, .int .i64 1]) ∧ w = w' := by
  go_enter Try.func19, Try.ntmps19
  go_wp2_with (go_at_call 11; refine (wrap_any _ _).mono ?_; rintro e w' ⟨rfl, rfl⟩)
  go_ret2
  exact ⟨rfl, rfl⟩

theorem rem_some (a b : Int) (hb : (wr b == 0) = false) (w : World) : Calls Try.prog 19 #[.int .i64 a, .int .i64 b] w fun e w' => e = .returned (.tuple #[.int .i64 ((wr a).tmod (wr b)), .int .i64 0]) ∧ w = w' := by
  have hz : ¬ wr b = 0 := by simpa using hb
  go_enter Try.func19, Try.ntmps19
  go_wp2_with (go_at_call 11; refine (wrap_any _ _).mono ?_; rintro e w' ⟨rfl, rfl⟩)
  go_ret2
  exact ⟨rfl, rfl⟩

theorem rdiv_nought (a b : Int) (hb : (wr b == 0) = true) (w : World) : Calls Try.prog 20 #[.int .i64 a, .int .i64 b] w fun e w' => e = .returned (.tuple #[.int .i64 0, .int .i64 0, .int .i64 1]) ∧ w = w' := by
  go_enter Try.func20, Try.ntmps20
  go_wp2_with (go_at_call 13; refine (rwrap_any _ _).mono ?_; rintro e w' ⟨rfl, rfl⟩)
  go_ret3
  exact ⟨rfl, rfl⟩

theorem rdiv_some (a b : Int) (hb : (wr b == 0) = false) (w : World) : Calls Try.prog 20 #[.int .i64 a, .int .i64 b] w fun e w' => e = .returned (.tuple #[.int .i64 (wr ((wr a).tdiv (wr b))), .int .i64 ((wr a).tmod (wr b)), .int .i64 0]) ∧ ∃ n, w' = w.drewN n := by
  have hz : ¬ wr b = 0 := by simpa using hb
  go_enter Try.func20, Try.ntmps20
  go_wp2_with (go_at_call 13; refine (rwrap_any _ _).mono ?_; rintro e w' ⟨rfl, rfl⟩)
  go_quiet ((go_at_call 13; exact qs (rwrap_any _ _)))
  go_wp2
  go_ret3
  exact ⟨by simp [wr_wrap64], _, rfl⟩

theorem rmul_any (a b : Int) (w : World) : Calls Try.prog 17 #[.int .i64 a, .int .i64 b] w fun e w' => e = .returned (.int .i64 (wr (a * b))) ∧ w = w' := by
  go_enter Try.func17, Try.ntmps17
  go_wp2
  go_loop [5, 7] (fun p i => ∃ k : Nat, k ≤ 64 ∧ i = .int .i64 k ∧ p = .int .u64 (IntKind.u64.wrap (mulTo a b k))) (fun _ i => 64 - (intOf i).toNat)
  case atStart => exact ⟨0, by omega, rfl, by rw [mulTo_zero]; rfl⟩
  case round =>
    obtain ⟨k, hk, rfl, rfl⟩ := hrel
    by_cases hlt : k < 64
    · go_wp2
      · have h := mulTo_one a b k (by assumption)
        refine ⟨⟨k + 1, by omega, by go_num, by rw [h]⟩, by simp [intOf]; omega⟩
      · have h := mulTo_none a b k (by assumption)
        refine ⟨⟨k + 1, by omega, by go_num, by rw [h]⟩, by simp [intOf]; omega⟩
    · obtain rfl : k = 64 := by omega
      go_wp2_with (go_at_call 13; refine (rwrap_any _ _).mono ?_; rintro e w' ⟨rfl, rfl⟩)
      go_ret
      exact ⟨ret_int (mulTo_all a b), rfl⟩

theorem counts_any (w : World) : Calls Try.prog 12 #[] w fun e w' => e = .returned (.bool true) ∧ w = w' := by
  go_enter Try.func12, Try.ntmps12
  go_wp2
  · go_ret
    exact ⟨rfl, rfl⟩
  · rename_i h
    exact absurd (by simp only [wrap64]; decide) h

/-! ### The three statements on integers -/
theorem ints_walk (a b : Int) (w : World) : Calls Try.prog 3 #[.int .i64 a, .int .i64 b] w fun e w' => e = .returned (.bool true) ∧ w = w' := by
  have h1 := wr_ge a
  have h2 := wr_le a
  have e1 : (wr (a + b) == wr (wrap64 (wr a + wr b))) = true := by rw [wr_wrap64, wr_add_l, wr_add_r]; simp
  have e2 : (wr (a - b) == wr (wrap64 (wr a - wr b))) = true := by rw [wr_wrap64, wr_sub_l, wr_sub_r]; simp
  go_enter Try.func3, Try.ntmps3
  go_wp2_with (first | (go_at_call 11; refine (wrap_any _ _).mono ?_; rintro e w' ⟨rfl, rfl⟩) | (go_at_call 12; refine (counts_any _).mono ?_; rintro e w' ⟨rfl, rfl⟩) | (go_at_call 13; refine (rwrap_any _ _).mono ?_; rintro e w' ⟨rfl, rfl⟩) | (go_at_call 14; refine (add_any _ _ _).mono ?_; rintro e w' ⟨rfl, rfl⟩) | (go_at_call 15; refine (sub_any _ _ _).mono ?_; rintro e w' ⟨rfl, rfl⟩) | (go_at_call 16; refine (mul_any _ _ _).mono ?_; rintro e w' ⟨rfl, rfl⟩) | (go_at_call 17; refine (rmul_any _ _ _).mono ?_; rintro e w' ⟨rfl, rfl⟩))
  go_ret
  exact ⟨rfl, rfl⟩

theorem rings_walk (a b c : Int) (w : World) : Calls Try.prog 4 #[.int .i64 a, .int .i64 b, .int .i64 c] w fun e w' => e = .returned (.bool true) ∧ w = w' := by
  have e1 : (wr (wr (a + b) + c) == wr (a + wr (b + c))) = true := by rw [wr_add_l, wr_add_r, Int.add_assoc]; simp
  have e2 : (wr (wr (a * b) * c) == wr (a * wr (b * c))) = true := by rw [wr_mul_l, wr_mul_r, Int.mul_assoc]; simp
  have e3 : (wr (a * wr (b + c)) == wr (wr (a * b) + wr (a * c))) = true := by rw [wr_mul_r, wr_add_l, wr_add_r, Int.mul_add]; simp
  have e4 : (wr (wr (a + b) - b) == wr a) = true := by rw [wr_sub_l, Int.add_sub_cancel]; simp
  go_enter Try.func4, Try.ntmps4
  go_wp2_with (first | (go_at_call 11; refine (wrap_any _ _).mono ?_; rintro e w' ⟨rfl, rfl⟩) | (go_at_call 12; refine (counts_any _).mono ?_; rintro e w' ⟨rfl, rfl⟩) | (go_at_call 14; refine (add_any _ _ _).mono ?_; rintro e w' ⟨rfl, rfl⟩) | (go_at_call 15; refine (sub_any _ _ _).mono ?_; rintro e w' ⟨rfl, rfl⟩) | (go_at_call 16; refine (mul_any _ _ _).mono ?_; rintro e w' ⟨rfl, rfl⟩))
  go_ret
  exact ⟨rfl, rfl⟩

theorem divs_walk (a b : Int) (w : World) : Calls Try.prog 5 #[.int .i64 a, .int .i64 b] w fun e w' => e = .returned (.bool true) ∧ ∃ n, w' = w.drewN n := by
  by_cases hb : (wr b == 0) = true
  · go_enter Try.func5, Try.ntmps5
    go_wp2_with (first | (go_at_call 12; refine (counts_any _).mono ?_; rintro e w' ⟨rfl, rfl⟩) | (go_at_call 18; refine (div_nought _ _ hb _).mono ?_; rintro e w' ⟨rfl, rfl⟩) | (go_at_call 19; refine (rem_nought _ _ hb _).mono ?_; rintro e w' ⟨rfl, rfl⟩) | (go_at_call 20; refine (rdiv_nought _ _ hb _).mono ?_; rintro e w' ⟨rfl, rfl⟩))
    go_ret
    exact ⟨rfl, 0, rfl⟩
  · have hb' : (wr b == 0) = false := by simpa using hb
    clear hb
    have e1 : (wr (wr (wr ((wr a).tdiv (wr b)) * b) + (wr a).tmod (wr b)) == wr a) = true := by rw [divs]; simp
    go_enter Try.func5, Try.ntmps5
    go_wp2_with (first | (go_at_call 11; refine (wrap_any _ _).mono ?_; rintro e w' ⟨rfl, rfl⟩) | (go_at_call 14; refine (add_any _ _ _).mono ?_; rintro e w' ⟨rfl, rfl⟩) | (go_at_call 16; refine (mul_any _ _ _).mono ?_; rintro e w' ⟨rfl, rfl⟩) | (go_at_call 12; refine (counts_any _).mono ?_; rintro e w' ⟨rfl, rfl⟩) | (go_at_call 18; refine (div_some _ _ hb' _).mono ?_; rintro e w' ⟨rfl, rfl⟩) | (go_at_call 19; refine (rem_some _ _ hb' _).mono ?_; rintro e w' ⟨rfl, rfl⟩) | (go_at_call 20; refine (rdiv_some _ _ hb' _).mono ?_; rintro e w' ⟨rfl, n, rfl⟩))
    go_ret
    exact ⟨rfl, _, rfl⟩

end Go.Proofs.Ytljpecbejaiphaa
