/- The law NumZeros: noughts with a sign, and the walk. -/
import Derived.Test.YtljpecbejaiphaaOrders
namespace Go.Proofs.Ytljpecbejaiphaa
open Go.RowKit Ieee

theorem read_zero : double.read 0 = .number false 0 (-1074) := by decide +kernel
theorem read_nzero : double.read 9223372036854775808 = .number true 0 (-1074) := by decide +kernel
theorem read_infinity : double.read 9218868437227405312 = .infinity false := by decide +kernel
theorem write_inf : double.write (.infinity false) = 9218868437227405312 := by decide +kernel
theorem write_ninf : double.write (.infinity true) = 18442240474082181120 := by decide +kernel
theorem neg_zero : canon (Op.negFloat .f64 0) = 9223372036854775808 := by decide +kernel
theorem neg_inf : canon (Op.negFloat .f64 9218868437227405312) = 18442240474082181120 := by decide +kernel
theorem neg_ninf : canon (Op.negFloat .f64 18442240474082181120) = 9218868437227405312 := by decide +kernel
theorem one_over : opr .quo 4607182418800017408 0 = 9218868437227405312 := by decide +kernel
theorem root_nzero : root 9223372036854775808 = 9223372036854775808 := by decide +kernel
theorem zeros_add : opr .add 0 9223372036854775808 = 0 := by decide +kernel
theorem inf_sub : opr .sub 9218868437227405312 9218868437227405312 = NAN := by decide +kernel
theorem zero_quo : opr .quo 0 0 = NAN := by decide +kernel
theorem nzero_quo : opr .quo 9223372036854775808 0 = NAN := by decide +kernel

theorem opr_quo (x y : Nat) : opr .quo x y = (((double.read x).quotient (double.fractionBits + 2) (double.read y)).map double.write).getD NAN := rfl
theorem opr_sub_def (x y : Nat) : opr .sub x y = (((double.read x).sum (double.read y).opposite).map double.write).getD NAN := rfl

theorem over_nought {x : Nat} (hx : x < 18446744073709551616) (h : isNan x = true ∨ isZero x = true) : opr .quo x 0 = NAN := by
  rcases h with h | h
  · exact opr_nan (.inl h)
  · simp only [isZero, beq_iff_eq] at h
    have : x = 0 ∨ x = 9223372036854775808 := by omega
    rcases this with rfl | rfl
    · exact zero_quo
    · exact nzero_quo

theorem sign_pos {x : Nat} (h : x < 9223372036854775808) : (x / 9223372036854775808 % 2 == 1) = false := by simp; omega
theorem sign_neg {x : Nat} (hx : x < 18446744073709551616) (h : ¬ x < 9223372036854775808) : (x / 9223372036854775808 % 2 == 1) = true := by simp; omega

theorem quot_zero {x : Nat} (h : isNan x = false) (hz : isZero x = false) (t : Bool) (k : Nat) : (double.read x).quotient k (.number t 0 (-1074)) = some (.infinity ((x / 9223372036854775808 % 2 == 1) ^^ t)) := by
  have h' := not_nan h
  simp only [isZero, beq_eq_false_iff_ne, ne_eq] at hz
  by_cases h1 : x % 9223372036854775808 < 9218868437227405312
  · obtain ⟨m, p, e, _, hv⟩ := read_finite h1
    have hm : m ≠ 0 := by
      intro e0
      rw [e0, Nat.zero_mul] at hv
      have := (val_pos_iff (x % 9223372036854775808)).2 (by omega)
      omega
    rw [e]
    simp only [Datum.quotient, if_true, if_neg hm]
  · rw [read_inf (by omega)]
    simp only [Datum.quotient]

theorem over_zero {x : Nat} (h : isNan x = false) (hz : isZero x = false) (h1 : x < 9223372036854775808) : opr .quo x 0 = 9218868437227405312 := by
  rw [opr_quo, read_zero, quot_zero h hz, sign_pos h1]
  exact write_inf
theorem over_zero' {x : Nat} (hx : x < 18446744073709551616) (h : isNan x = false) (hz : isZero x = false) (h1 : ¬ x < 9223372036854775808) : opr .quo x 0 = 18442240474082181120 := by
  rw [opr_quo, read_zero, quot_zero h hz, sign_neg hx h1]
  exact write_ninf
theorem over_nzero {x : Nat} (h : isNan x = false) (hz : isZero x = false) (h1 : x < 9223372036854775808) : opr .quo x 9223372036854775808 = 18442240474082181120 := by
  rw [opr_quo, read_nzero, quot_zero h hz, sign_pos h1]
  exact write_ninf
theorem over_nzero' {x : Nat} (hx : x < 18446744073709551616) (h : isNan x = false) (hz : isZero x = false) (h1 : ¬ x < 9223372036854775808) : opr .quo x 9223372036854775808 = 9218868437227405312 := by
  rw [opr_quo, read_nzero, quot_zero h hz, sign_neg hx h1]
  exact write_inf

theorem write_nought (s : Bool) (p : Int) : double.write (.number s 0 p) = double.word s 0 := by
  unfold Format.write Format.nearest
  simp only [if_true]

theorem over_inf {x : Nat} (h1 : x % 9223372036854775808 < 9218868437227405312) : (double.order (opr .quo x 9218868437227405312) 0 == some .eq) = true := by
  rw [zero_cmp, opr_quo, read_infinity]
  obtain ⟨m, p, e, _, hv⟩ := read_finite h1
  rw [e]
  simp only [Datum.quotient, Option.map_some, Option.getD_some]
  rw [write_nought]
  cases (x / 9223372036854775808 % 2 == 1) <;> decide +kernel

theorem signed_not (s : Bool) (m k : Nat) : signed s m k + signed (!s) m k = 0 := by
  unfold signed
  cases s
  · simp only [Bool.false_eq_true, if_false, Bool.not_false, if_true]; omega
  · simp only [Bool.not_true, Bool.false_eq_true, if_false, if_true]; omega

theorem sub_self {x : Nat} (h1 : x % 9223372036854775808 < 9218868437227405312) : opr .sub x x = 0 := by
  rw [opr_sub_def]
  obtain ⟨m, p, e, _, hv⟩ := read_finite h1
  rw [e]
  generalize (x / 9223372036854775808 % 2 == 1) = s
  simp only [Datum.opposite, Datum.sum, Int.min_self, Int.sub_self, signed_not, if_true, Int.natAbs_zero, Option.map_some, Option.getD_some]
  rw [write_nought]
  cases s <;> decide +kernel

theorem finite_eq (x : Nat) (hx : x < 18446744073709551616) (hn : isNan x = false) : (IntKind.u64.wrap ((x : Int) * 2) / 9007199254740992 != 2047) = decide (x % 9223372036854775808 < 9218868437227405312) := by
  have := not_nan hn
  rw [IntKind.wrap_u64, Bool.eq_iff_iff]
  simp only [bne_iff_ne, ne_eq, decide_eq_true_eq]
  omega

theorem zeros_nan (x : Nat) (hx : x < 18446744073709551616) (nx : isNan x = true) (Q1 : Hid (opr .quo x 0 = NAN)) (Q2 S1 O1 : Hid (0 = 0)) (w : World) : Calls Try.prog 10 #[.int .u64 x] w fun e w' => e = .returned (.bool true) ∧ ∃ k, w' = w.drewN k := by
  go_enter Try.func10, Try.ntmps10
  go_wp2_with (first | (go_at_call 12; refine (counts_any _).mono ?_; rintro e w' ⟨rfl, rfl⟩) | (go_at_call 26; refine (ofInt_any _ _).mono ?_; rintro e w' ⟨rfl, rfl⟩; first | rw [ofInt_one] | rw [ofInt_zero]) | (go_at_call 24; refine (neg_any _ _).mono ?_; rintro e w' ⟨rfl, rfl⟩; first | rw [neg_zero] | rw [neg_inf] | rw [neg_ninf]) | (go_at_call 28; refine (over_any _ _ _).mono ?_; rintro e w' ⟨rfl, k, rfl⟩; first | rw [one_over] | rw [zero_quo] | rw [Q1.out] | rw [Q2.out] | skip) | (go_at_call 21; refine (plus_any _ _ _).mono ?_; rintro e w' ⟨rfl, k, rfl⟩; rw [zeros_add]) | (go_at_call 23; refine (minus_any _ _ _).mono ?_; rintro e w' ⟨rfl, k, rfl⟩; first | rw [inf_sub] | rw [S1.out]) | (go_at_call 37; refine (root_any _ _).mono ?_; rintro e w' ⟨rfl, k, rfl⟩; rw [root_nzero]) | (go_at_call 30; refine (same_any _ _ _).mono ?_; rintro e w' ⟨rfl, rfl⟩; rw [O1.out]) | (go_at_call 27; refine (isNan_any _ hx _).mono ?_; rintro e w' ⟨rfl, rfl⟩))
  go_ret
  exact ⟨rfl, _, rfl⟩

theorem zeros_zero (x : Nat) (hx : x < 18446744073709551616) (nx : isNan x = false) (zx : (IntKind.u64.wrap ((x : Int) * 2) == 0) = true) (Q1 : Hid (opr .quo x 0 = NAN)) (Q2 S1 O1 : Hid (0 = 0)) (w : World) : Calls Try.prog 10 #[.int .u64 x] w fun e w' => e = .returned (.bool true) ∧ ∃ k, w' = w.drewN k := by
  go_enter Try.func10, Try.ntmps10
  go_wp2_with (first | (go_at_call 12; refine (counts_any _).mono ?_; rintro e w' ⟨rfl, rfl⟩) | (go_at_call 26; refine (ofInt_any _ _).mono ?_; rintro e w' ⟨rfl, rfl⟩; first | rw [ofInt_one] | rw [ofInt_zero]) | (go_at_call 24; refine (neg_any _ _).mono ?_; rintro e w' ⟨rfl, rfl⟩; first | rw [neg_zero] | rw [neg_inf] | rw [neg_ninf]) | (go_at_call 28; refine (over_any _ _ _).mono ?_; rintro e w' ⟨rfl, k, rfl⟩; first | rw [one_over] | rw [zero_quo] | rw [Q1.out] | rw [Q2.out] | skip) | (go_at_call 21; refine (plus_any _ _ _).mono ?_; rintro e w' ⟨rfl, k, rfl⟩; rw [zeros_add]) | (go_at_call 23; refine (minus_any _ _ _).mono ?_; rintro e w' ⟨rfl, k, rfl⟩; first | rw [inf_sub] | rw [S1.out]) | (go_at_call 37; refine (root_any _ _).mono ?_; rintro e w' ⟨rfl, k, rfl⟩; rw [root_nzero]) | (go_at_call 30; refine (same_any _ _ _).mono ?_; rintro e w' ⟨rfl, rfl⟩; rw [O1.out]) | (go_at_call 27; refine (isNan_any _ hx _).mono ?_; rintro e w' ⟨rfl, rfl⟩))
  go_ret
  exact ⟨rfl, _, rfl⟩

theorem zeros_pf (x : Nat) (hx : x < 18446744073709551616) (nx : isNan x = false) (zx : (IntKind.u64.wrap ((x : Int) * 2) == 0) = false) (sx : ((x : Int) / 9223372036854775808 == 1) = false) (fx : (IntKind.u64.wrap ((x : Int) * 2) / 9007199254740992 != 2047) = true) (Q1 : Hid (opr .quo x 0 = 9218868437227405312)) (Q2 : Hid (opr .quo x 9223372036854775808 = 18442240474082181120)) (S1 : Hid (opr .sub x x = 0)) (O1 : Hid ((double.order (opr .quo x 9218868437227405312) 0 == some .eq) = true)) (w : World) : Calls Try.prog 10 #[.int .u64 x] w fun e w' => e = .returned (.bool true) ∧ ∃ k, w' = w.drewN k := by
  go_enter Try.func10, Try.ntmps10
  go_wp2_with (first | (go_at_call 12; refine (counts_any _).mono ?_; rintro e w' ⟨rfl, rfl⟩) | (go_at_call 26; refine (ofInt_any _ _).mono ?_; rintro e w' ⟨rfl, rfl⟩; first | rw [ofInt_one] | rw [ofInt_zero]) | (go_at_call 24; refine (neg_any _ _).mono ?_; rintro e w' ⟨rfl, rfl⟩; first | rw [neg_zero] | rw [neg_inf] | rw [neg_ninf]) | (go_at_call 28; refine (over_any _ _ _).mono ?_; rintro e w' ⟨rfl, k, rfl⟩; first | rw [one_over] | rw [zero_quo] | rw [Q1.out] | rw [Q2.out] | skip) | (go_at_call 21; refine (plus_any _ _ _).mono ?_; rintro e w' ⟨rfl, k, rfl⟩; rw [zeros_add]) | (go_at_call 23; refine (minus_any _ _ _).mono ?_; rintro e w' ⟨rfl, k, rfl⟩; first | rw [inf_sub] | rw [S1.out]) | (go_at_call 37; refine (root_any _ _).mono ?_; rintro e w' ⟨rfl, k, rfl⟩; rw [root_nzero]) | (go_at_call 30; refine (same_any _ _ _).mono ?_; rintro e w' ⟨rfl, rfl⟩; rw [O1.out]) | (go_at_call 27; refine (isNan_any _ hx _).mono ?_; rintro e w' ⟨rfl, rfl⟩))
  go_ret
  exact ⟨rfl, _, rfl⟩

theorem zeros_pi (x : Nat) (hx : x < 18446744073709551616) (nx : isNan x = false) (zx : (IntKind.u64.wrap ((x : Int) * 2) == 0) = false) (sx : ((x : Int) / 9223372036854775808 == 1) = false) (fx : (IntKind.u64.wrap ((x : Int) * 2) / 9007199254740992 != 2047) = false) (Q1 : Hid (opr .quo x 0 = 9218868437227405312)) (Q2 : Hid (opr .quo x 9223372036854775808 = 18442240474082181120)) (S1 : Hid (0 = 0)) (O1 : Hid (0 = 0)) (w : World) : Calls Try.prog 10 #[.int .u64 x] w fun e w' => e = .returned (.bool true) ∧ ∃ k, w' = w.drewN k := by
  go_enter Try.func10, Try.ntmps10
  go_wp2_with (first | (go_at_call 12; refine (counts_any _).mono ?_; rintro e w' ⟨rfl, rfl⟩) | (go_at_call 26; refine (ofInt_any _ _).mono ?_; rintro e w' ⟨rfl, rfl⟩; first | rw [ofInt_one] | rw [ofInt_zero]) | (go_at_call 24; refine (neg_any _ _).mono ?_; rintro e w' ⟨rfl, rfl⟩; first | rw [neg_zero] | rw [neg_inf] | rw [neg_ninf]) | (go_at_call 28; refine (over_any _ _ _).mono ?_; rintro e w' ⟨rfl, k, rfl⟩; first | rw [one_over] | rw [zero_quo] | rw [Q1.out] | rw [Q2.out] | skip) | (go_at_call 21; refine (plus_any _ _ _).mono ?_; rintro e w' ⟨rfl, k, rfl⟩; rw [zeros_add]) | (go_at_call 23; refine (minus_any _ _ _).mono ?_; rintro e w' ⟨rfl, k, rfl⟩; first | rw [inf_sub] | rw [S1.out]) | (go_at_call 37; refine (root_any _ _).mono ?_; rintro e w' ⟨rfl, k, rfl⟩; rw [root_nzero]) | (go_at_call 30; refine (same_any _ _ _).mono ?_; rintro e w' ⟨rfl, rfl⟩; rw [O1.out]) | (go_at_call 27; refine (isNan_any _ hx _).mono ?_; rintro e w' ⟨rfl, rfl⟩))
  go_ret
  exact ⟨rfl, _, rfl⟩

theorem zeros_nf (x : Nat) (hx : x < 18446744073709551616) (nx : isNan x = false) (zx : (IntKind.u64.wrap ((x : Int) * 2) == 0) = false) (sx : ((x : Int) / 9223372036854775808 == 1) = true) (fx : (IntKind.u64.wrap ((x : Int) * 2) / 9007199254740992 != 2047) = true) (Q1 : Hid (opr .quo x 0 = 18442240474082181120)) (Q2 : Hid (opr .quo x 9223372036854775808 = 9218868437227405312)) (S1 : Hid (opr .sub x x = 0)) (O1 : Hid ((double.order (opr .quo x 9218868437227405312) 0 == some .eq) = true)) (w : World) : Calls Try.prog 10 #[.int .u64 x] w fun e w' => e = .returned (.bool true) ∧ ∃ k, w' = w.drewN k := by
  go_enter Try.func10, Try.ntmps10
  go_wp2_with (first | (go_at_call 12; refine (counts_any _).mono ?_; rintro e w' ⟨rfl, rfl⟩) | (go_at_call 26; refine (ofInt_any _ _).mono ?_; rintro e w' ⟨rfl, rfl⟩; first | rw [ofInt_one] | rw [ofInt_zero]) | (go_at_call 24; refine (neg_any _ _).mono ?_; rintro e w' ⟨rfl, rfl⟩; first | rw [neg_zero] | rw [neg_inf] | rw [neg_ninf]) | (go_at_call 28; refine (over_any _ _ _).mono ?_; rintro e w' ⟨rfl, k, rfl⟩; first | rw [one_over] | rw [zero_quo] | rw [Q1.out] | rw [Q2.out] | skip) | (go_at_call 21; refine (plus_any _ _ _).mono ?_; rintro e w' ⟨rfl, k, rfl⟩; rw [zeros_add]) | (go_at_call 23; refine (minus_any _ _ _).mono ?_; rintro e w' ⟨rfl, k, rfl⟩; first | rw [inf_sub] | rw [S1.out]) | (go_at_call 37; refine (root_any _ _).mono ?_; rintro e w' ⟨rfl, k, rfl⟩; rw [root_nzero]) | (go_at_call 30; refine (same_any _ _ _).mono ?_; rintro e w' ⟨rfl, rfl⟩; rw [O1.out]) | (go_at_call 27; refine (isNan_any _ hx _).mono ?_; rintro e w' ⟨rfl, rfl⟩))
  go_ret
  exact ⟨rfl, _, rfl⟩

theorem zeros_ni (x : Nat) (hx : x < 18446744073709551616) (nx : isNan x = false) (zx : (IntKind.u64.wrap ((x : Int) * 2) == 0) = false) (sx : ((x : Int) / 9223372036854775808 == 1) = true) (fx : (IntKind.u64.wrap ((x : Int) * 2) / 9007199254740992 != 2047) = false) (Q1 : Hid (opr .quo x 0 = 18442240474082181120)) (Q2 : Hid (opr .quo x 9223372036854775808 = 9218868437227405312)) (S1 : Hid (0 = 0)) (O1 : Hid (0 = 0)) (w : World) : Calls Try.prog 10 #[.int .u64 x] w fun e w' => e = .returned (.bool true) ∧ ∃ k, w' = w.drewN k := by
  go_enter Try.func10, Try.ntmps10
  go_wp2_with (first | (go_at_call 12; refine (counts_any _).mono ?_; rintro e w' ⟨rfl, rfl⟩) | (go_at_call 26; refine (ofInt_any _ _).mono ?_; rintro e w' ⟨rfl, rfl⟩; first | rw [ofInt_one] | rw [ofInt_zero]) | (go_at_call 24; refine (neg_any _ _).mono ?_; rintro e w' ⟨rfl, rfl⟩; first | rw [neg_zero] | rw [neg_inf] | rw [neg_ninf]) | (go_at_call 28; refine (over_any _ _ _).mono ?_; rintro e w' ⟨rfl, k, rfl⟩; first | rw [one_over] | rw [zero_quo] | rw [Q1.out] | rw [Q2.out] | skip) | (go_at_call 21; refine (plus_any _ _ _).mono ?_; rintro e w' ⟨rfl, k, rfl⟩; rw [zeros_add]) | (go_at_call 23; refine (minus_any _ _ _).mono ?_; rintro e w' ⟨rfl, k, rfl⟩; first | rw [inf_sub] | rw [S1.out]) | (go_at_call 37; refine (root_any _ _).mono ?_; rintro e w' ⟨rfl, k, rfl⟩; rw [root_nzero]) | (go_at_call 30; refine (same_any _ _ _).mono ?_; rintro e w' ⟨rfl, rfl⟩; rw [O1.out]) | (go_at_call 27; refine (isNan_any _ hx _).mono ?_; rintro e w' ⟨rfl, rfl⟩))
  go_ret
  exact ⟨rfl, _, rfl⟩

theorem zeros_walk (x : Nat) (hx : x < 18446744073709551616) (w : World) : Calls Try.prog 10 #[.int .u64 x] w fun e w' => e = .returned (.bool true) ∧ ∃ k, w' = w.drewN k := by
  cases nx : isNan x
  · have zx := shl_zero x hx
    cases z : isZero x
    · rw [z] at zx
      have fx := finite_eq x hx nx
      by_cases h1 : x < 9223372036854775808
      · have sx : ((x : Int) / 9223372036854775808 == 1) = false := by simp; omega
        by_cases f : x % 9223372036854775808 < 9218868437227405312
        · rw [decide_eq_true f] at fx
          exact zeros_pf x hx nx zx sx fx (over_zero nx z h1) (over_nzero nx z h1) (sub_self f) (over_inf f) w
        · rw [decide_eq_false f] at fx
          exact zeros_pi x hx nx zx sx fx (over_zero nx z h1) (over_nzero nx z h1) (Eq.refl 0) (Eq.refl 0) w
      · have sx : ((x : Int) / 9223372036854775808 == 1) = true := by simp; omega
        by_cases f : x % 9223372036854775808 < 9218868437227405312
        · rw [decide_eq_true f] at fx
          exact zeros_nf x hx nx zx sx fx (over_zero' hx nx z h1) (over_nzero' hx nx z h1) (sub_self f) (over_inf f) w
        · rw [decide_eq_false f] at fx
          exact zeros_ni x hx nx zx sx fx (over_zero' hx nx z h1) (over_nzero' hx nx z h1) (Eq.refl 0) (Eq.refl 0) w
    · rw [z] at zx
      exact zeros_zero x hx nx zx (over_nought hx (.inr z)) (Eq.refl 0) (Eq.refl 0) (Eq.refl 0) w
  · exact zeros_nan x hx nx (over_nought hx (.inl nx)) (Eq.refl 0) (Eq.refl 0) (Eq.refl 0) w
end Go.Proofs.Ytljpecbejaiphaa
