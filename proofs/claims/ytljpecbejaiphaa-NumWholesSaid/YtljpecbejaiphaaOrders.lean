/- The law NumOrders: how floats stand to each other, and the walk. -/
import Derived.Test.YtljpecbejaiphaaAlgebra
namespace Go.Proofs.Ytljpecbejaiphaa
open Go.RowKit Ieee

/-- The number that grows as floats stand. -/
def rank (x : Nat) : Int := if isNan x then -9223372036854775808 else if x < 9223372036854775808 then (x : Int) else -1 - ((x % 9223372036854775808 : Nat) : Int)
def isZero (x : Nat) : Bool := x % 9223372036854775808 == 0

theorem sv_pos {x : Nat} (h : x < 9223372036854775808) : sv x = val x := by
  unfold sv
  rw [if_neg (by simp; omega), Nat.mod_eq_of_lt h]
theorem sv_neg {x : Nat} (hx : x < 18446744073709551616) (h : ¬ x < 9223372036854775808) : sv x = -(val (x % 9223372036854775808) : Int) := by
  unfold sv
  rw [if_pos (by simp; omega)]

theorem val_pos_iff (r : Nat) : 0 < val r ↔ 0 < r := by
  have := val_lt_iff 0 r
  rwa [val_zero] at this

theorem val_inj {a b : Nat} : val a = val b ↔ a = b := by
  have h1 := val_lt_iff a b
  have h2 := val_lt_iff b a
  omega

theorem not_nan {x : Nat} (h : isNan x = false) : x % 9223372036854775808 ≤ 9218868437227405312 := by simpa [isNan] using h

theorem zero_cmp (x : Nat) : (double.order x 0 == some .eq) = isZero x := by
  cases h : isNan x
  · rw [order_sv h (by decide)]
    have h0 : sv 0 = 0 := by decide
    rw [h0]
    unfold isZero
    have hv := val_pos_iff (x % 9223372036854775808)
    by_cases hz : x % 9223372036854775808 = 0
    · have : sv x = 0 := by unfold sv; rw [hz, val_zero]; split <;> rfl
      rw [this, hz, cmp_eq rfl]; rfl
    · have h1 : sv x ≠ 0 := by unfold sv; split <;> omega
      have h2 : ¬ compare (sv x) 0 = .eq := by
        intro e
        rcases Int.lt_trichotomy (sv x) 0 with h | h | h
        · rw [cmp_lt h] at e; cases e
        · exact h1 h
        · rw [cmp_gt h] at e; cases e
      rw [show (x % 9223372036854775808 == 0) = false from by simpa using hz]
      simpa using h2
  · rw [order_nan_l h]
    have h' : 9218868437227405312 < x % 9223372036854775808 := by simpa [isNan] using h
    unfold isZero
    rw [show (x % 9223372036854775808 == 0) = false from by simp; omega]
    rfl

theorem lt_rank {x y : Nat} (hx : x < 18446744073709551616) (hy : y < 18446744073709551616) (nx : isNan x = false) (ny : isNan y = false) (hz : ¬ (isZero x = true ∧ isZero y = true)) :
    (double.order x y == some .lt) = decide (rank x < rank y) := by
  rw [order_sv nx ny]
  have e : (some (compare (sv x) (sv y)) == some Ordering.lt) = decide (sv x < sv y) := by
    rcases Int.lt_trichotomy (sv x) (sv y) with h | h | h
    · rw [cmp_lt h]; simp [h]
    · rw [cmp_eq h]; simp [h]
    · rw [cmp_gt h]; simp; omega
  rw [e]
  refine decide_eq_decide.2 ?_
  unfold rank
  rw [nx, ny]
  simp only [Bool.false_eq_true, if_false]
  have a := val_lt_iff (x % 9223372036854775808) (y % 9223372036854775808)
  have b := val_lt_iff (y % 9223372036854775808) (x % 9223372036854775808)
  have c := val_pos_iff (x % 9223372036854775808)
  have d := val_pos_iff (y % 9223372036854775808)
  simp only [isZero, beq_iff_eq] at hz
  by_cases h1 : x < 9223372036854775808 <;> by_cases h2 : y < 9223372036854775808
  · rw [if_pos h1, if_pos h2, sv_pos h1, sv_pos h2]
    rw [Nat.mod_eq_of_lt h1, Nat.mod_eq_of_lt h2] at *
    omega
  · rw [if_pos h1, if_neg h2, sv_pos h1, sv_neg hy h2]
    rw [Nat.mod_eq_of_lt h1] at *
    omega
  · rw [if_neg h1, if_pos h2, sv_neg hx h1, sv_pos h2]
    rw [Nat.mod_eq_of_lt h2] at *
    omega
  · rw [if_neg h1, if_neg h2, sv_neg hx h1, sv_neg hy h2]
    omega

theorem eq_rank {x y : Nat} (hx : x < 18446744073709551616) (hy : y < 18446744073709551616) (nx : isNan x = false) (ny : isNan y = false) :
    (double.order x y == some .eq) = (x == y || (isZero x && isZero y)) := by
  rw [order_sv nx ny]
  have e : (some (compare (sv x) (sv y)) == some Ordering.eq) = decide (sv x = sv y) := by
    rcases Int.lt_trichotomy (sv x) (sv y) with h | h | h
    · rw [cmp_lt h]; simp; omega
    · rw [cmp_eq h]; simp [h]
    · rw [cmp_gt h]; simp; omega
  rw [e]
  have a := val_inj (a := x % 9223372036854775808) (b := y % 9223372036854775808)
  have c := val_pos_iff (x % 9223372036854775808)
  have d := val_pos_iff (y % 9223372036854775808)
  rw [Bool.eq_iff_iff]
  simp only [isZero, Bool.or_eq_true, Bool.and_eq_true, beq_iff_eq, decide_eq_true_eq]
  by_cases h1 : x < 9223372036854775808 <;> by_cases h2 : y < 9223372036854775808
  · rw [sv_pos h1, sv_pos h2]
    rw [Nat.mod_eq_of_lt h1, Nat.mod_eq_of_lt h2] at *
    omega
  · rw [sv_pos h1, sv_neg hy h2]
    rw [Nat.mod_eq_of_lt h1] at *
    omega
  · rw [sv_neg hx h1, sv_pos h2]
    rw [Nat.mod_eq_of_lt h2] at *
    omega
  · rw [sv_neg hx h1, sv_neg hy h2]
    omega

theorem rank_nan {x y : Nat} (nx : isNan x = true) : rank x < rank y ↔ isNan y = false := by
  unfold rank
  rw [nx, if_pos rfl]
  cases h : isNan y
  · have := not_nan h
    simp only [Bool.false_eq_true, if_false]
    split <;> simp <;> omega
  · simp
theorem rank_nan_r {x y : Nat} (ny : isNan y = true) : ¬ rank x < rank y := by
  unfold rank
  rw [ny, if_pos rfl]
  cases h : isNan x
  · have := not_nan h
    simp only [Bool.false_eq_true, if_false]
    split <;> omega
  · simp

theorem rank_zero {x y : Nat} (hx : x < 18446744073709551616) (hy : y < 18446744073709551616) (zx : isZero x = true) (zy : isZero y = true) : rank x < rank y ↔ (wrap64 x < 0 ∧ ¬ wrap64 y < 0) := by
  simp only [isZero, beq_iff_eq] at zx zy
  have hx' : x = 0 ∨ x = 9223372036854775808 := by omega
  have hy' : y = 0 ∨ y = 9223372036854775808 := by omega
  rcases hx' with rfl | rfl <;> rcases hy' with rfl | rfl <;> decide +kernel

theorem canon_rank {x y : Nat} (hx : x < 18446744073709551616) (hy : y < 18446744073709551616) (h1 : ¬ rank x < rank y) (h2 : ¬ rank y < rank x) : canon x = canon y := by
  cases nx : isNan x <;> cases ny : isNan y
  · rw [canon_of nx, canon_of ny]
    unfold rank at h1 h2
    rw [nx, ny] at h1 h2
    simp only [Bool.false_eq_true, if_false] at h1 h2
    by_cases h3 : x < 9223372036854775808 <;> by_cases h4 : y < 9223372036854775808
    · rw [if_pos h3, if_pos h4] at h1 h2; omega
    · rw [if_pos h3, if_neg h4] at h1 h2; omega
    · rw [if_neg h3, if_pos h4] at h1 h2; omega
    · rw [if_neg h3, if_neg h4] at h1 h2; omega
  · exact absurd ((rank_nan ny).2 nx) h2
  · exact absurd ((rank_nan nx).2 ny) h1
  · rw [canon_nan nx, canon_nan ny]

theorem rank_any (x : Nat) (hx : x < 18446744073709551616) (w : World) : Calls Try.prog 32 #[.int .u64 x] w fun e w' => e = .returned (.int .i64 (rank x)) ∧ w = w' := by
  have H := Lib.hid (and63 x hx)
  cases h : isNan x
  · by_cases h1 : x < 9223372036854775808
    · have h2 : (((x : Int) / 9223372036854775808) == 1) = false := by simp; omega
      have e : rank x = wrap64 x := by unfold rank; rw [h, if_neg (by simp), if_pos h1]; simp only [wrap64]; omega
      have E := Lib.hid e
      clear e h1
      go_enter Try.func32, Try.ntmps32
      go_wp2_with (go_at_call 27; refine (isNan_any _ hx _).mono ?_; rintro e w' ⟨rfl, rfl⟩)
      go_ret
      exact ⟨ret_int E.out.symm, rfl⟩
    · have h2 : (((x : Int) / 9223372036854775808) == 1) = true := by simp; omega
      have e : rank x = wrap64 (-1 - wrap64 (bits .and .u64 x 9223372036854775807)) := by
        unfold rank; rw [h, if_neg (by simp), if_neg h1, H.out]; simp only [wrap64]; omega
      have E := Lib.hid e
      clear e h1
      go_enter Try.func32, Try.ntmps32
      go_wp2_with (go_at_call 27; refine (isNan_any _ hx _).mono ?_; rintro e w' ⟨rfl, rfl⟩)
      go_ret
      exact ⟨ret_int E.out.symm, rfl⟩
  · have e : rank x = -9223372036854775808 := by unfold rank; rw [h, if_pos rfl]
    have E := Lib.hid e
    clear e
    go_enter Try.func32, Try.ntmps32
    go_wp2_with (go_at_call 27; refine (isNan_any _ hx _).mono ?_; rintro e w' ⟨rfl, rfl⟩)
    go_ret
    exact ⟨ret_int E.out.symm, rfl⟩

theorem signbit_any (x : Nat) (w : World) : Calls Try.prog 41 #[.float .f64 x] w fun e w' => e = .returned (.bool (decide (wrap64 x < 0))) ∧ w = w' := by
  go_enter Try.func41, Try.ntmps41
  go_wp2
  go_ret
  exact ⟨rfl, rfl⟩

theorem ahead_zero (x y : Nat) (nx : isNan x = false) (ny : isNan y = false) (Z1 : (FloatKind.f64.format.order x 0 == some Ordering.eq) = true) (Z2 : (FloatKind.f64.format.order y 0 == some Ordering.eq) = true)
    (R : Hid (decide (rank x < rank y) = (decide (wrap64 x < 0) && !decide (wrap64 y < 0)))) (w : World) : Calls Try.prog 31 #[.int .u64 x, .int .u64 y] w fun e w' => e = .returned (.bool (decide (rank x < rank y))) ∧ w = w' := by
  cases b1 : decide (wrap64 x < 0) <;> cases b2 : decide (wrap64 y < 0)
  · have R2 : Hid (decide (rank x < rank y) = (false && !false)) := R.out.trans (by rw [b1, b2])
    clear R
    go_enter Try.func31, Try.ntmps31
    go_wp2_with (first | (go_at_call 39; go_in) | (go_at_call 40; refine (isNaN_any _ _).mono ?_; rintro e w' ⟨rfl, rfl⟩) | (go_at_call 41; refine (signbit_any _ _).mono ?_; rintro e w' ⟨rfl, rfl⟩))
    go_ret
    exact ⟨ret_bool (by rw [R2.out]; rfl), rfl⟩
  · have R2 : Hid (decide (rank x < rank y) = (false && !true)) := R.out.trans (by rw [b1, b2])
    clear R
    go_enter Try.func31, Try.ntmps31
    go_wp2_with (first | (go_at_call 39; go_in) | (go_at_call 40; refine (isNaN_any _ _).mono ?_; rintro e w' ⟨rfl, rfl⟩) | (go_at_call 41; refine (signbit_any _ _).mono ?_; rintro e w' ⟨rfl, rfl⟩))
    go_ret
    exact ⟨ret_bool (by rw [R2.out]; rfl), rfl⟩
  · have R2 : Hid (decide (rank x < rank y) = (true && !false)) := R.out.trans (by rw [b1, b2])
    clear R
    go_enter Try.func31, Try.ntmps31
    go_wp2_with (first | (go_at_call 39; go_in) | (go_at_call 40; refine (isNaN_any _ _).mono ?_; rintro e w' ⟨rfl, rfl⟩) | (go_at_call 41; refine (signbit_any _ _).mono ?_; rintro e w' ⟨rfl, rfl⟩))
    go_ret
    exact ⟨ret_bool (by rw [R2.out]; rfl), rfl⟩
  · have R2 : Hid (decide (rank x < rank y) = (true && !true)) := R.out.trans (by rw [b1, b2])
    clear R
    go_enter Try.func31, Try.ntmps31
    go_wp2_with (first | (go_at_call 39; go_in) | (go_at_call 40; refine (isNaN_any _ _).mono ?_; rintro e w' ⟨rfl, rfl⟩) | (go_at_call 41; refine (signbit_any _ _).mono ?_; rintro e w' ⟨rfl, rfl⟩))
    go_ret
    exact ⟨ret_bool (by rw [R2.out]; rfl), rfl⟩

theorem ahead_some1 (x y : Nat) (nx : isNan x = false) (ny : isNan y = false) (Z1 : (FloatKind.f64.format.order x 0 == some Ordering.eq) = false)
    (L : Hid ((FloatKind.f64.format.order x y == some Ordering.lt) = decide (rank x < rank y))) (w : World) : Calls Try.prog 31 #[.int .u64 x, .int .u64 y] w fun e w' => e = .returned (.bool (decide (rank x < rank y))) ∧ w = w' := by
  go_enter Try.func31, Try.ntmps31
  go_wp2_with (first | (go_at_call 39; go_in) | (go_at_call 40; refine (isNaN_any _ _).mono ?_; rintro e w' ⟨rfl, rfl⟩) | (go_at_call 41; refine (signbit_any _ _).mono ?_; rintro e w' ⟨rfl, rfl⟩))
  go_ret
  exact ⟨ret_bool L.out, rfl⟩

theorem ahead_some2 (x y : Nat) (nx : isNan x = false) (ny : isNan y = false) (Z1 : (FloatKind.f64.format.order x 0 == some Ordering.eq) = true) (Z2 : (FloatKind.f64.format.order y 0 == some Ordering.eq) = false)
    (L : Hid ((FloatKind.f64.format.order x y == some Ordering.lt) = decide (rank x < rank y))) (w : World) : Calls Try.prog 31 #[.int .u64 x, .int .u64 y] w fun e w' => e = .returned (.bool (decide (rank x < rank y))) ∧ w = w' := by
  go_enter Try.func31, Try.ntmps31
  go_wp2_with (first | (go_at_call 39; go_in) | (go_at_call 40; refine (isNaN_any _ _).mono ?_; rintro e w' ⟨rfl, rfl⟩) | (go_at_call 41; refine (signbit_any _ _).mono ?_; rintro e w' ⟨rfl, rfl⟩))
  go_ret
  exact ⟨ret_bool L.out, rfl⟩

theorem ahead_nan_r (x y : Nat) (nx : isNan x = false) (ny : isNan y = true) (R : Hid (decide (rank x < rank y) = false)) (w : World) : Calls Try.prog 31 #[.int .u64 x, .int .u64 y] w fun e w' => e = .returned (.bool (decide (rank x < rank y))) ∧ w = w' := by
  go_enter Try.func31, Try.ntmps31
  go_wp2_with (first | (go_at_call 39; go_in) | (go_at_call 40; refine (isNaN_any _ _).mono ?_; rintro e w' ⟨rfl, rfl⟩) | (go_at_call 41; refine (signbit_any _ _).mono ?_; rintro e w' ⟨rfl, rfl⟩))
  go_ret
  exact ⟨ret_bool (by rw [R.out]), rfl⟩

theorem ahead_nan_l (x y : Nat) (nx : isNan x = true) (R : Hid (decide (rank x < rank y) = !isNan y)) (w : World) : Calls Try.prog 31 #[.int .u64 x, .int .u64 y] w fun e w' => e = .returned (.bool (decide (rank x < rank y))) ∧ w = w' := by
  cases ny : isNan y
  all_goals
    go_enter Try.func31, Try.ntmps31
    go_wp2_with (first | (go_at_call 39; go_in) | (go_at_call 40; refine (isNaN_any _ _).mono ?_; rintro e w' ⟨rfl, rfl⟩) | (go_at_call 41; refine (signbit_any _ _).mono ?_; rintro e w' ⟨rfl, rfl⟩))
    go_ret
    exact ⟨ret_bool (by rw [R.out, ny]; try rfl), rfl⟩

theorem ahead_any (x y : Nat) (hx : x < 18446744073709551616) (hy : y < 18446744073709551616) (w : World) : Calls Try.prog 31 #[.int .u64 x, .int .u64 y] w fun e w' => e = .returned (.bool (decide (rank x < rank y))) ∧ w = w' := by
  cases nx : isNan x
  · cases ny : isNan y
    · cases zx : isZero x
      · exact ahead_some1 x y nx ny ((zero_cmp x).trans zx) (lt_rank hx hy nx ny (by rw [zx]; simp)) w
      · cases zy : isZero y
        · exact ahead_some2 x y nx ny ((zero_cmp x).trans zx) ((zero_cmp y).trans zy) (lt_rank hx hy nx ny (by rw [zy]; simp)) w
        · refine ahead_zero x y nx ny ((zero_cmp x).trans zx) ((zero_cmp y).trans zy) ?_ w
          show _ = _
          rw [Bool.eq_iff_iff]; simp only [decide_eq_true_eq, Bool.and_eq_true, Bool.not_eq_true', decide_eq_false_iff_not]; exact rank_zero hx hy zx zy
    · refine ahead_nan_r x y nx ny ?_ w
      show _ = _
      simpa using rank_nan_r ny
  · refine ahead_nan_l x y nx ?_ w
    show _ = _
    rw [Bool.eq_iff_iff]; simp only [decide_eq_true_eq, Bool.not_eq_true']; exact rank_nan nx

theorem nan_order (x y : Nat) (h : isNan x = true ∨ isNan y = true) (o : Ordering) : (double.order x y == some o) = false := by
  rw [h.elim order_nan_l order_nan_r]; rfl

/-- 'x << 1 == 0'. -/
theorem shl_zero (x : Nat) (hx : x < 18446744073709551616) : (IntKind.u64.wrap ((x : Int) * 2) == 0) = isZero x := by
  unfold isZero
  rw [IntKind.wrap_u64, Bool.eq_iff_iff]
  simp only [beq_iff_eq]
  omega

end Go.Proofs.Ytljpecbejaiphaa
