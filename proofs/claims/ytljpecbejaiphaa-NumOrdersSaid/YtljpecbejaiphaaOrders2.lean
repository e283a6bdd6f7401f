/- The law NumOrders, a walk for each way in which two floats may stand. -/
import Derived.Test.YtljpecbejaiphaaOrders
namespace Go.Proofs.Ytljpecbejaiphaa
open Go.RowKit Ieee

theorem orders_a1n (x y z : Nat) (hx : x < 18446744073709551616) (hy : y < 18446744073709551616) (hz : z < 18446744073709551616) (r0 : rank x < rank y) (r1 : ¬ rank y < rank x) (r2 : rank y < rank z) (r3 : rank x < rank z) (nx : isNan x = true) (HL : Hid ((double.order x y == some .lt) = false)) (HS : Hid ((double.order x y == some .eq) = false)) (w : World) : Calls Try.prog 7 #[.int .u64 x, .int .u64 y, .int .u64 z] w fun e w' => e = .returned (.bool true) ∧ w = w' := by
  go_enter Try.func7, Try.ntmps7
  go_wp2_with (first | (go_at_call 12; refine (counts_any _).mono ?_; rintro e w' ⟨rfl, rfl⟩) | (go_at_call 31; refine (ahead_any _ _ (by assumption) (by assumption) _).mono ?_; rintro e w' ⟨rfl, rfl⟩) | (go_at_call 32; refine (rank_any _ (by assumption) _).mono ?_; rintro e w' ⟨rfl, rfl⟩) | (go_at_call 25; refine (canon_any _ (by assumption) _).mono ?_; rintro e w' ⟨rfl, rfl⟩) | (go_at_call 27; refine (isNan_any _ (by assumption) _).mono ?_; rintro e w' ⟨rfl, rfl⟩) | (go_at_call 29; refine (less_any _ _ _).mono ?_; rintro e w' ⟨rfl, rfl⟩; rw [HL.out]) | (go_at_call 30; refine (same_any _ _ _).mono ?_; rintro e w' ⟨rfl, rfl⟩; rw [HS.out]))
  go_ret
  exact ⟨rfl, rfl⟩

theorem orders_a1f (x y z : Nat) (hx : x < 18446744073709551616) (hy : y < 18446744073709551616) (hz : z < 18446744073709551616) (r0 : rank x < rank y) (r1 : ¬ rank y < rank x) (r2 : rank y < rank z) (r3 : rank x < rank z) (nx : isNan x = false) (ny : isNan y = false) (zx : (IntKind.u64.wrap ((x : Int) * 2) == 0) = false) (xy : ((x : Int) == (y : Int)) = false) (HL : Hid ((double.order x y == some .lt) = true)) (HS : Hid ((double.order x y == some .eq) = false)) (w : World) : Calls Try.prog 7 #[.int .u64 x, .int .u64 y, .int .u64 z] w fun e w' => e = .returned (.bool true) ∧ w = w' := by
  go_enter Try.func7, Try.ntmps7
  go_wp2_with (first | (go_at_call 12; refine (counts_any _).mono ?_; rintro e w' ⟨rfl, rfl⟩) | (go_at_call 31; refine (ahead_any _ _ (by assumption) (by assumption) _).mono ?_; rintro e w' ⟨rfl, rfl⟩) | (go_at_call 32; refine (rank_any _ (by assumption) _).mono ?_; rintro e w' ⟨rfl, rfl⟩) | (go_at_call 25; refine (canon_any _ (by assumption) _).mono ?_; rintro e w' ⟨rfl, rfl⟩) | (go_at_call 27; refine (isNan_any _ (by assumption) _).mono ?_; rintro e w' ⟨rfl, rfl⟩) | (go_at_call 29; refine (less_any _ _ _).mono ?_; rintro e w' ⟨rfl, rfl⟩; rw [HL.out]) | (go_at_call 30; refine (same_any _ _ _).mono ?_; rintro e w' ⟨rfl, rfl⟩; rw [HS.out]))
  go_ret
  exact ⟨rfl, rfl⟩

theorem orders_a1g (x y z : Nat) (hx : x < 18446744073709551616) (hy : y < 18446744073709551616) (hz : z < 18446744073709551616) (r0 : rank x < rank y) (r1 : ¬ rank y < rank x) (r2 : rank y < rank z) (r3 : rank x < rank z) (nx : isNan x = false) (ny : isNan y = false) (zx : (IntKind.u64.wrap ((x : Int) * 2) == 0) = true) (zy : (IntKind.u64.wrap ((y : Int) * 2) == 0) = false) (xy : ((x : Int) == (y : Int)) = false) (HL : Hid ((double.order x y == some .lt) = true)) (HS : Hid ((double.order x y == some .eq) = false)) (w : World) : Calls Try.prog 7 #[.int .u64 x, .int .u64 y, .int .u64 z] w fun e w' => e = .returned (.bool true) ∧ w = w' := by
  go_enter Try.func7, Try.ntmps7
  go_wp2_with (first | (go_at_call 12; refine (counts_any _).mono ?_; rintro e w' ⟨rfl, rfl⟩) | (go_at_call 31; refine (ahead_any _ _ (by assumption) (by assumption) _).mono ?_; rintro e w' ⟨rfl, rfl⟩) | (go_at_call 32; refine (rank_any _ (by assumption) _).mono ?_; rintro e w' ⟨rfl, rfl⟩) | (go_at_call 25; refine (canon_any _ (by assumption) _).mono ?_; rintro e w' ⟨rfl, rfl⟩) | (go_at_call 27; refine (isNan_any _ (by assumption) _).mono ?_; rintro e w' ⟨rfl, rfl⟩) | (go_at_call 29; refine (less_any _ _ _).mono ?_; rintro e w' ⟨rfl, rfl⟩; rw [HL.out]) | (go_at_call 30; refine (same_any _ _ _).mono ?_; rintro e w' ⟨rfl, rfl⟩; rw [HS.out]))
  go_ret
  exact ⟨rfl, rfl⟩

theorem orders_a1z (x y z : Nat) (hx : x < 18446744073709551616) (hy : y < 18446744073709551616) (hz : z < 18446744073709551616) (r0 : rank x < rank y) (r1 : ¬ rank y < rank x) (r2 : rank y < rank z) (r3 : rank x < rank z) (nx : isNan x = false) (ny : isNan y = false) (zx : (IntKind.u64.wrap ((x : Int) * 2) == 0) = true) (zy : (IntKind.u64.wrap ((y : Int) * 2) == 0) = true) (xy : ((x : Int) == (y : Int)) = false) (HL : Hid ((double.order x y == some .lt) = false)) (HS : Hid ((double.order x y == some .eq) = true)) (w : World) : Calls Try.prog 7 #[.int .u64 x, .int .u64 y, .int .u64 z] w fun e w' => e = .returned (.bool true) ∧ w = w' := by
  go_enter Try.func7, Try.ntmps7
  go_wp2_with (first | (go_at_call 12; refine (counts_any _).mono ?_; rintro e w' ⟨rfl, rfl⟩) | (go_at_call 31; refine (ahead_any _ _ (by assumption) (by assumption) _).mono ?_; rintro e w' ⟨rfl, rfl⟩) | (go_at_call 32; refine (rank_any _ (by assumption) _).mono ?_; rintro e w' ⟨rfl, rfl⟩) | (go_at_call 25; refine (canon_any _ (by assumption) _).mono ?_; rintro e w' ⟨rfl, rfl⟩) | (go_at_call 27; refine (isNan_any _ (by assumption) _).mono ?_; rintro e w' ⟨rfl, rfl⟩) | (go_at_call 29; refine (less_any _ _ _).mono ?_; rintro e w' ⟨rfl, rfl⟩; rw [HL.out]) | (go_at_call 30; refine (same_any _ _ _).mono ?_; rintro e w' ⟨rfl, rfl⟩; rw [HS.out]))
  go_ret
  exact ⟨rfl, rfl⟩

theorem orders_a2n (x y z : Nat) (hx : x < 18446744073709551616) (hy : y < 18446744073709551616) (hz : z < 18446744073709551616) (r0 : rank x < rank y) (r1 : ¬ rank y < rank x) (r2 : ¬ rank y < rank z) (nx : isNan x = true) (HL : Hid ((double.order x y == some .lt) = false)) (HS : Hid ((double.order x y == some .eq) = false)) (w : World) : Calls Try.prog 7 #[.int .u64 x, .int .u64 y, .int .u64 z] w fun e w' => e = .returned (.bool true) ∧ w = w' := by
  go_enter Try.func7, Try.ntmps7
  go_wp2_with (first | (go_at_call 12; refine (counts_any _).mono ?_; rintro e w' ⟨rfl, rfl⟩) | (go_at_call 31; refine (ahead_any _ _ (by assumption) (by assumption) _).mono ?_; rintro e w' ⟨rfl, rfl⟩) | (go_at_call 32; refine (rank_any _ (by assumption) _).mono ?_; rintro e w' ⟨rfl, rfl⟩) | (go_at_call 25; refine (canon_any _ (by assumption) _).mono ?_; rintro e w' ⟨rfl, rfl⟩) | (go_at_call 27; refine (isNan_any _ (by assumption) _).mono ?_; rintro e w' ⟨rfl, rfl⟩) | (go_at_call 29; refine (less_any _ _ _).mono ?_; rintro e w' ⟨rfl, rfl⟩; rw [HL.out]) | (go_at_call 30; refine (same_any _ _ _).mono ?_; rintro e w' ⟨rfl, rfl⟩; rw [HS.out]))
  go_ret
  exact ⟨rfl, rfl⟩

theorem orders_a2f (x y z : Nat) (hx : x < 18446744073709551616) (hy : y < 18446744073709551616) (hz : z < 18446744073709551616) (r0 : rank x < rank y) (r1 : ¬ rank y < rank x) (r2 : ¬ rank y < rank z) (nx : isNan x = false) (ny : isNan y = false) (zx : (IntKind.u64.wrap ((x : Int) * 2) == 0) = false) (xy : ((x : Int) == (y : Int)) = false) (HL : Hid ((double.order x y == some .lt) = true)) (HS : Hid ((double.order x y == some .eq) = false)) (w : World) : Calls Try.prog 7 #[.int .u64 x, .int .u64 y, .int .u64 z] w fun e w' => e = .returned (.bool true) ∧ w = w' := by
  go_enter Try.func7, Try.ntmps7
  go_wp2_with (first | (go_at_call 12; refine (counts_any _).mono ?_; rintro e w' ⟨rfl, rfl⟩) | (go_at_call 31; refine (ahead_any _ _ (by assumption) (by assumption) _).mono ?_; rintro e w' ⟨rfl, rfl⟩) | (go_at_call 32; refine (rank_any _ (by assumption) _).mono ?_; rintro e w' ⟨rfl, rfl⟩) | (go_at_call 25; refine (canon_any _ (by assumption) _).mono ?_; rintro e w' ⟨rfl, rfl⟩) | (go_at_call 27; refine (isNan_any _ (by assumption) _).mono ?_; rintro e w' ⟨rfl, rfl⟩) | (go_at_call 29; refine (less_any _ _ _).mono ?_; rintro e w' ⟨rfl, rfl⟩; rw [HL.out]) | (go_at_call 30; refine (same_any _ _ _).mono ?_; rintro e w' ⟨rfl, rfl⟩; rw [HS.out]))
  go_ret
  exact ⟨rfl, rfl⟩

theorem orders_a2g (x y z : Nat) (hx : x < 18446744073709551616) (hy : y < 18446744073709551616) (hz : z < 18446744073709551616) (r0 : rank x < rank y) (r1 : ¬ rank y < rank x) (r2 : ¬ rank y < rank z) (nx : isNan x = false) (ny : isNan y = false) (zx : (IntKind.u64.wrap ((x : Int) * 2) == 0) = true) (zy : (IntKind.u64.wrap ((y : Int) * 2) == 0) = false) (xy : ((x : Int) == (y : Int)) = false) (HL : Hid ((double.order x y == some .lt) = true)) (HS : Hid ((double.order x y == some .eq) = false)) (w : World) : Calls Try.prog 7 #[.int .u64 x, .int .u64 y, .int .u64 z] w fun e w' => e = .returned (.bool true) ∧ w = w' := by
  go_enter Try.func7, Try.ntmps7
  go_wp2_with (first | (go_at_call 12; refine (counts_any _).mono ?_; rintro e w' ⟨rfl, rfl⟩) | (go_at_call 31; refine (ahead_any _ _ (by assumption) (by assumption) _).mono ?_; rintro e w' ⟨rfl, rfl⟩) | (go_at_call 32; refine (rank_any _ (by assumption) _).mono ?_; rintro e w' ⟨rfl, rfl⟩) | (go_at_call 25; refine (canon_any _ (by assumption) _).mono ?_; rintro e w' ⟨rfl, rfl⟩) | (go_at_call 27; refine (isNan_any _ (by assumption) _).mono ?_; rintro e w' ⟨rfl, rfl⟩) | (go_at_call 29; refine (less_any _ _ _).mono ?_; rintro e w' ⟨rfl, rfl⟩; rw [HL.out]) | (go_at_call 30; refine (same_any _ _ _).mono ?_; rintro e w' ⟨rfl, rfl⟩; rw [HS.out]))
  go_ret
  exact ⟨rfl, rfl⟩

theorem orders_a2z (x y z : Nat) (hx : x < 18446744073709551616) (hy : y < 18446744073709551616) (hz : z < 18446744073709551616) (r0 : rank x < rank y) (r1 : ¬ rank y < rank x) (r2 : ¬ rank y < rank z) (nx : isNan x = false) (ny : isNan y = false) (zx : (IntKind.u64.wrap ((x : Int) * 2) == 0) = true) (zy : (IntKind.u64.wrap ((y : Int) * 2) == 0) = true) (xy : ((x : Int) == (y : Int)) = false) (HL : Hid ((double.order x y == some .lt) = false)) (HS : Hid ((double.order x y == some .eq) = true)) (w : World) : Calls Try.prog 7 #[.int .u64 x, .int .u64 y, .int .u64 z] w fun e w' => e = .returned (.bool true) ∧ w = w' := by
  go_enter Try.func7, Try.ntmps7
  go_wp2_with (first | (go_at_call 12; refine (counts_any _).mono ?_; rintro e w' ⟨rfl, rfl⟩) | (go_at_call 31; refine (ahead_any _ _ (by assumption) (by assumption) _).mono ?_; rintro e w' ⟨rfl, rfl⟩) | (go_at_call 32; refine (rank_any _ (by assumption) _).mono ?_; rintro e w' ⟨rfl, rfl⟩) | (go_at_call 25; refine (canon_any _ (by assumption) _).mono ?_; rintro e w' ⟨rfl, rfl⟩) | (go_at_call 27; refine (isNan_any _ (by assumption) _).mono ?_; rintro e w' ⟨rfl, rfl⟩) | (go_at_call 29; refine (less_any _ _ _).mono ?_; rintro e w' ⟨rfl, rfl⟩; rw [HL.out]) | (go_at_call 30; refine (same_any _ _ _).mono ?_; rintro e w' ⟨rfl, rfl⟩; rw [HS.out]))
  go_ret
  exact ⟨rfl, rfl⟩

theorem orders_bn (x y z : Nat) (hx : x < 18446744073709551616) (hy : y < 18446744073709551616) (hz : z < 18446744073709551616) (r0 : ¬ rank x < rank y) (r1 : rank y < rank x) (nx : isNan x = false) (ny : isNan y = true) (HL : Hid ((double.order x y == some .lt) = false)) (HS : Hid ((double.order x y == some .eq) = false)) (w : World) : Calls Try.prog 7 #[.int .u64 x, .int .u64 y, .int .u64 z] w fun e w' => e = .returned (.bool true) ∧ w = w' := by
  go_enter Try.func7, Try.ntmps7
  go_wp2_with (first | (go_at_call 12; refine (counts_any _).mono ?_; rintro e w' ⟨rfl, rfl⟩) | (go_at_call 31; refine (ahead_any _ _ (by assumption) (by assumption) _).mono ?_; rintro e w' ⟨rfl, rfl⟩) | (go_at_call 32; refine (rank_any _ (by assumption) _).mono ?_; rintro e w' ⟨rfl, rfl⟩) | (go_at_call 25; refine (canon_any _ (by assumption) _).mono ?_; rintro e w' ⟨rfl, rfl⟩) | (go_at_call 27; refine (isNan_any _ (by assumption) _).mono ?_; rintro e w' ⟨rfl, rfl⟩) | (go_at_call 29; refine (less_any _ _ _).mono ?_; rintro e w' ⟨rfl, rfl⟩; rw [HL.out]) | (go_at_call 30; refine (same_any _ _ _).mono ?_; rintro e w' ⟨rfl, rfl⟩; rw [HS.out]))
  go_ret
  exact ⟨rfl, rfl⟩

theorem orders_bf (x y z : Nat) (hx : x < 18446744073709551616) (hy : y < 18446744073709551616) (hz : z < 18446744073709551616) (r0 : ¬ rank x < rank y) (r1 : rank y < rank x) (nx : isNan x = false) (ny : isNan y = false) (zx : (IntKind.u64.wrap ((x : Int) * 2) == 0) = false) (xy : ((x : Int) == (y : Int)) = false) (HL : Hid ((double.order x y == some .lt) = false)) (HS : Hid ((double.order x y == some .eq) = false)) (w : World) : Calls Try.prog 7 #[.int .u64 x, .int .u64 y, .int .u64 z] w fun e w' => e = .returned (.bool true) ∧ w = w' := by
  go_enter Try.func7, Try.ntmps7
  go_wp2_with (first | (go_at_call 12; refine (counts_any _).mono ?_; rintro e w' ⟨rfl, rfl⟩) | (go_at_call 31; refine (ahead_any _ _ (by assumption) (by assumption) _).mono ?_; rintro e w' ⟨rfl, rfl⟩) | (go_at_call 32; refine (rank_any _ (by assumption) _).mono ?_; rintro e w' ⟨rfl, rfl⟩) | (go_at_call 25; refine (canon_any _ (by assumption) _).mono ?_; rintro e w' ⟨rfl, rfl⟩) | (go_at_call 27; refine (isNan_any _ (by assumption) _).mono ?_; rintro e w' ⟨rfl, rfl⟩) | (go_at_call 29; refine (less_any _ _ _).mono ?_; rintro e w' ⟨rfl, rfl⟩; rw [HL.out]) | (go_at_call 30; refine (same_any _ _ _).mono ?_; rintro e w' ⟨rfl, rfl⟩; rw [HS.out]))
  go_ret
  exact ⟨rfl, rfl⟩

theorem orders_bg (x y z : Nat) (hx : x < 18446744073709551616) (hy : y < 18446744073709551616) (hz : z < 18446744073709551616) (r0 : ¬ rank x < rank y) (r1 : rank y < rank x) (nx : isNan x = false) (ny : isNan y = false) (zx : (IntKind.u64.wrap ((x : Int) * 2) == 0) = true) (zy : (IntKind.u64.wrap ((y : Int) * 2) == 0) = false) (xy : ((x : Int) == (y : Int)) = false) (HL : Hid ((double.order x y == some .lt) = false)) (HS : Hid ((double.order x y == some .eq) = false)) (w : World) : Calls Try.prog 7 #[.int .u64 x, .int .u64 y, .int .u64 z] w fun e w' => e = .returned (.bool true) ∧ w = w' := by
  go_enter Try.func7, Try.ntmps7
  go_wp2_with (first | (go_at_call 12; refine (counts_any _).mono ?_; rintro e w' ⟨rfl, rfl⟩) | (go_at_call 31; refine (ahead_any _ _ (by assumption) (by assumption) _).mono ?_; rintro e w' ⟨rfl, rfl⟩) | (go_at_call 32; refine (rank_any _ (by assumption) _).mono ?_; rintro e w' ⟨rfl, rfl⟩) | (go_at_call 25; refine (canon_any _ (by assumption) _).mono ?_; rintro e w' ⟨rfl, rfl⟩) | (go_at_call 27; refine (isNan_any _ (by assumption) _).mono ?_; rintro e w' ⟨rfl, rfl⟩) | (go_at_call 29; refine (less_any _ _ _).mono ?_; rintro e w' ⟨rfl, rfl⟩; rw [HL.out]) | (go_at_call 30; refine (same_any _ _ _).mono ?_; rintro e w' ⟨rfl, rfl⟩; rw [HS.out]))
  go_ret
  exact ⟨rfl, rfl⟩

theorem orders_bz (x y z : Nat) (hx : x < 18446744073709551616) (hy : y < 18446744073709551616) (hz : z < 18446744073709551616) (r0 : ¬ rank x < rank y) (r1 : rank y < rank x) (nx : isNan x = false) (ny : isNan y = false) (zx : (IntKind.u64.wrap ((x : Int) * 2) == 0) = true) (zy : (IntKind.u64.wrap ((y : Int) * 2) == 0) = true) (xy : ((x : Int) == (y : Int)) = false) (HL : Hid ((double.order x y == some .lt) = false)) (HS : Hid ((double.order x y == some .eq) = true)) (w : World) : Calls Try.prog 7 #[.int .u64 x, .int .u64 y, .int .u64 z] w fun e w' => e = .returned (.bool true) ∧ w = w' := by
  go_enter Try.func7, Try.ntmps7
  go_wp2_with (first | (go_at_call 12; refine (counts_any _).mono ?_; rintro e w' ⟨rfl, rfl⟩) | (go_at_call 31; refine (ahead_any _ _ (by assumption) (by assumption) _).mono ?_; rintro e w' ⟨rfl, rfl⟩) | (go_at_call 32; refine (rank_any _ (by assumption) _).mono ?_; rintro e w' ⟨rfl, rfl⟩) | (go_at_call 25; refine (canon_any _ (by assumption) _).mono ?_; rintro e w' ⟨rfl, rfl⟩) | (go_at_call 27; refine (isNan_any _ (by assumption) _).mono ?_; rintro e w' ⟨rfl, rfl⟩) | (go_at_call 29; refine (less_any _ _ _).mono ?_; rintro e w' ⟨rfl, rfl⟩; rw [HL.out]) | (go_at_call 30; refine (same_any _ _ _).mono ?_; rintro e w' ⟨rfl, rfl⟩; rw [HS.out]))
  go_ret
  exact ⟨rfl, rfl⟩

theorem orders_en (x y z : Nat) (hx : x < 18446744073709551616) (hy : y < 18446744073709551616) (hz : z < 18446744073709551616) (r0 : ¬ rank x < rank y) (r1 : ¬ rank y < rank x) (nx : isNan x = true) (HL : Hid ((double.order x y == some .lt) = false)) (HS : Hid ((double.order x y == some .eq) = false)) (HC : Hid (canon y = canon x)) (w : World) : Calls Try.prog 7 #[.int .u64 x, .int .u64 y, .int .u64 z] w fun e w' => e = .returned (.bool true) ∧ w = w' := by
  go_enter Try.func7, Try.ntmps7
  go_wp2_with (first | (go_at_call 12; refine (counts_any _).mono ?_; rintro e w' ⟨rfl, rfl⟩) | (go_at_call 31; refine (ahead_any _ _ (by assumption) (by assumption) _).mono ?_; rintro e w' ⟨rfl, rfl⟩) | (go_at_call 32; refine (rank_any _ (by assumption) _).mono ?_; rintro e w' ⟨rfl, rfl⟩) | (go_at_call 25; refine (canon_any _ (by assumption) _).mono ?_; rintro e w' ⟨rfl, rfl⟩; (try rw [HC.out])) | (go_at_call 27; refine (isNan_any _ (by assumption) _).mono ?_; rintro e w' ⟨rfl, rfl⟩) | (go_at_call 29; refine (less_any _ _ _).mono ?_; rintro e w' ⟨rfl, rfl⟩; rw [HL.out]) | (go_at_call 30; refine (same_any _ _ _).mono ?_; rintro e w' ⟨rfl, rfl⟩; rw [HS.out]))
  go_ret
  exact ⟨rfl, rfl⟩

theorem orders_ef (x y z : Nat) (hx : x < 18446744073709551616) (hy : y < 18446744073709551616) (hz : z < 18446744073709551616) (r0 : ¬ rank x < rank y) (r1 : ¬ rank y < rank x) (nx : isNan x = false) (ny : isNan y = false) (zx : (IntKind.u64.wrap ((x : Int) * 2) == 0) = false) (xy : ((x : Int) == (y : Int)) = true) (HL : Hid ((double.order x y == some .lt) = false)) (HS : Hid ((double.order x y == some .eq) = true)) (HC : Hid (canon y = canon x)) (w : World) : Calls Try.prog 7 #[.int .u64 x, .int .u64 y, .int .u64 z] w fun e w' => e = .returned (.bool true) ∧ w = w' := by
  go_enter Try.func7, Try.ntmps7
  go_wp2_with (first | (go_at_call 12; refine (counts_any _).mono ?_; rintro e w' ⟨rfl, rfl⟩) | (go_at_call 31; refine (ahead_any _ _ (by assumption) (by assumption) _).mono ?_; rintro e w' ⟨rfl, rfl⟩) | (go_at_call 32; refine (rank_any _ (by assumption) _).mono ?_; rintro e w' ⟨rfl, rfl⟩) | (go_at_call 25; refine (canon_any _ (by assumption) _).mono ?_; rintro e w' ⟨rfl, rfl⟩; (try rw [HC.out])) | (go_at_call 27; refine (isNan_any _ (by assumption) _).mono ?_; rintro e w' ⟨rfl, rfl⟩) | (go_at_call 29; refine (less_any _ _ _).mono ?_; rintro e w' ⟨rfl, rfl⟩; rw [HL.out]) | (go_at_call 30; refine (same_any _ _ _).mono ?_; rintro e w' ⟨rfl, rfl⟩; rw [HS.out]))
  go_ret
  exact ⟨rfl, rfl⟩

theorem orders_ez (x y z : Nat) (hx : x < 18446744073709551616) (hy : y < 18446744073709551616) (hz : z < 18446744073709551616) (r0 : ¬ rank x < rank y) (r1 : ¬ rank y < rank x) (nx : isNan x = false) (ny : isNan y = false) (zx : (IntKind.u64.wrap ((x : Int) * 2) == 0) = true) (zy : (IntKind.u64.wrap ((y : Int) * 2) == 0) = true) (xy : ((x : Int) == (y : Int)) = true) (HL : Hid ((double.order x y == some .lt) = false)) (HS : Hid ((double.order x y == some .eq) = true)) (HC : Hid (canon y = canon x)) (w : World) : Calls Try.prog 7 #[.int .u64 x, .int .u64 y, .int .u64 z] w fun e w' => e = .returned (.bool true) ∧ w = w' := by
  go_enter Try.func7, Try.ntmps7
  go_wp2_with (first | (go_at_call 12; refine (counts_any _).mono ?_; rintro e w' ⟨rfl, rfl⟩) | (go_at_call 31; refine (ahead_any _ _ (by assumption) (by assumption) _).mono ?_; rintro e w' ⟨rfl, rfl⟩) | (go_at_call 32; refine (rank_any _ (by assumption) _).mono ?_; rintro e w' ⟨rfl, rfl⟩) | (go_at_call 25; refine (canon_any _ (by assumption) _).mono ?_; rintro e w' ⟨rfl, rfl⟩; (try rw [HC.out])) | (go_at_call 27; refine (isNan_any _ (by assumption) _).mono ?_; rintro e w' ⟨rfl, rfl⟩) | (go_at_call 29; refine (less_any _ _ _).mono ?_; rintro e w' ⟨rfl, rfl⟩; rw [HL.out]) | (go_at_call 30; refine (same_any _ _ _).mono ?_; rintro e w' ⟨rfl, rfl⟩; rw [HS.out]))
  go_ret
  exact ⟨rfl, rfl⟩

theorem orders_walk (x y z : Nat) (hx : x < 18446744073709551616) (hy : y < 18446744073709551616) (hz : z < 18446744073709551616) (w : World) :
    Calls Try.prog 7 #[.int .u64 x, .int .u64 y, .int .u64 z] w fun e w' => e = .returned (.bool true) ∧ w = w' := by
  cases nx : isNan x
  · cases ny : isNan y
    · have q := eq_rank hx hy nx ny
      have l := fun h => lt_rank hx hy nx ny h
      have zx := shl_zero x hx
      have zy := shl_zero y hy
      have hne : rank x ≠ rank y → ¬ x = y := fun h e => h (by rw [e])
      have hxy : ((x : Int) == (y : Int)) = (x == y) := by rw [Bool.eq_iff_iff]; simp only [beq_iff_eq]; omega
      rcases Int.lt_trichotomy (rank x) (rank y) with h | h | h
      · have xy : (x == y) = false := by simpa using hne (by omega)
        have d : decide (rank x < rank y) = true := by simpa using h
        rw [xy] at hxy q
        by_cases hc : rank y < rank z
        · cases e1 : isZero x
          · rw [e1] at q zx
            exact orders_a1f x y z hx hy hz h (by omega) hc (by omega) nx ny zx hxy ((l (by rw [e1]; simp)).trans d) q w
          · cases e2 : isZero y
            · rw [e1, e2] at q; rw [e1] at zx; rw [e2] at zy
              exact orders_a1g x y z hx hy hz h (by omega) hc (by omega) nx ny zx zy hxy ((l (by rw [e2]; simp)).trans d) q w
            · rw [e1, e2] at q; rw [e1] at zx; rw [e2] at zy
              refine orders_a1z x y z hx hy hz h (by omega) hc (by omega) nx ny zx zy hxy ?_ q w
              show _ = _
              have q' : double.order x y = some .eq := by simpa using q
              rw [q']; rfl
        · cases e1 : isZero x
          · rw [e1] at q zx
            exact orders_a2f x y z hx hy hz h (by omega) hc nx ny zx hxy ((l (by rw [e1]; simp)).trans d) q w
          · cases e2 : isZero y
            · rw [e1, e2] at q; rw [e1] at zx; rw [e2] at zy
              exact orders_a2g x y z hx hy hz h (by omega) hc nx ny zx zy hxy ((l (by rw [e2]; simp)).trans d) q w
            · rw [e1, e2] at q; rw [e1] at zx; rw [e2] at zy
              refine orders_a2z x y z hx hy hz h (by omega) hc nx ny zx zy hxy ?_ q w
              show _ = _
              have q' : double.order x y = some .eq := by simpa using q
              rw [q']; rfl
      · have e0 : canon y = canon x := canon_rank hy hx (by omega) (by omega)
        rw [canon_of nx, canon_of ny] at e0
        subst e0
        have d : decide (rank y < rank y) = false := by simp
        rw [show (y == y) = true from by simp] at hxy q
        cases e1 : isZero y
        · rw [e1] at zx
          exact orders_ef y y z hx hy hz (by omega) (by omega) nx ny zx hxy ((l (by rw [e1]; simp)).trans d) q rfl w
        · rw [e1] at zx
          refine orders_ez y y z hx hy hz (by omega) (by omega) nx ny zx zx hxy ?_ q rfl w
          show _ = _
          have q' : double.order y y = some .eq := by simpa using q
          rw [q']; rfl
      · have xy : (x == y) = false := by simpa using hne (by omega)
        have d : decide (rank x < rank y) = false := by simp; omega
        rw [xy] at hxy q
        cases e1 : isZero x
        · rw [e1] at q zx
          exact orders_bf x y z hx hy hz (by omega) h nx ny zx hxy ((l (by rw [e1]; simp)).trans d) q w
        · cases e2 : isZero y
          · rw [e1, e2] at q; rw [e1] at zx; rw [e2] at zy
            exact orders_bg x y z hx hy hz (by omega) h nx ny zx zy hxy ((l (by rw [e2]; simp)).trans d) q w
          · rw [e1, e2] at q; rw [e1] at zx; rw [e2] at zy
            refine orders_bz x y z hx hy hz (by omega) h nx ny zx zy hxy ?_ q w
            show _ = _
            have q' : double.order x y = some .eq := by simpa using q
            rw [q']; rfl
    · have h : rank y < rank x := (rank_nan ny).2 nx
      exact orders_bn x y z hx hy hz (by omega) h nx ny (nan_order x y (.inr ny) _) (nan_order x y (.inr ny) _) w
  · cases ny : isNan y
    · have h : rank x < rank y := (rank_nan nx).2 ny
      by_cases hc : rank y < rank z
      · exact orders_a1n x y z hx hy hz h (by omega) hc (by omega) nx (nan_order x y (.inl nx) _) (nan_order x y (.inl nx) _) w
      · exact orders_a2n x y z hx hy hz h (by omega) hc nx (nan_order x y (.inl nx) _) (nan_order x y (.inl nx) _) w
    · have h1 := rank_nan_r (x := x) ny
      have h2 := rank_nan_r (x := y) nx
      exact orders_en x y z hx hy hz h1 h2 nx (nan_order x y (.inl nx) _) (nan_order x y (.inl nx) _) ((canon_nan ny).trans (canon_nan nx).symm) w
end Go.Proofs.Ytljpecbejaiphaa
