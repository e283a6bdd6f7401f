/- The law NumWholes: the walk. -/
import Derived.Test.YtljpecbejaiphaaWhole3
namespace Go.Proofs.Ytljpecbejaiphaa
open Go.RowKit Ieee

theorem wholes_bad_in (x : Nat) (n : Int) (hx : x < 18446744073709551616) (hf : fits x = false) (h1 : wr n ≤ 9007199254740992) (h2 : -9007199254740992 ≤ wr n) (w : World) : Calls Try.prog 8 #[.int .u64 x, .int .i64 n] w fun e w' => e = .returned (.bool true) ∧ ∃ k, w' = w.drewN k := by
  obtain ⟨q1, q2, q3⟩ := ofInt_whole (wr n) h2 h1
  have H := Lib.hid q3
  clear q3
  go_enter Try.func8, Try.ntmps8
  go_wp2_with (first | (go_at_call 33; ((with_reducible refine (whole_ok (floatOfInt .f64 (wr n)) q1 q2 _).mono ?_); rintro e w' ⟨rfl, rfl⟩; rw [H.out])) | (go_at_call 12; refine (counts_any _).mono ?_; rintro e w' ⟨rfl, rfl⟩) | (go_at_call 33; ((with_reducible refine (whole_bad _ hx hf _).mono ?_); rintro e w' ⟨rfl, k, rfl⟩)) | (go_at_call 34; refine (rwhole_bad _ hx hf _).mono ?_; rintro e w' ⟨rfl, rfl⟩) | (go_at_call 11; refine (wrap_any _ _).mono ?_; rintro e w' ⟨rfl, rfl⟩) | (go_at_call 26; refine (ofInt_any _ _).mono ?_; rintro e w' ⟨rfl, rfl⟩) | (go_at_call 35; refine (rof_any _ _).mono ?_; rintro e w' ⟨rfl, rfl⟩; rw [show canon (floatOfInt .f64 (wr n)) = floatOfInt .f64 (wr n) from canon_of (nearest_not_nan _ _ _)]))
  go_ret
  exact ⟨rfl, _, rfl⟩
theorem wholes_bad_lo (x : Nat) (n : Int) (hx : x < 18446744073709551616) (hf : fits x = false) (h1 : wr n ≤ 9007199254740992) (h2 : wr n < -9007199254740992) (w : World) : Calls Try.prog 8 #[.int .u64 x, .int .i64 n] w fun e w' => e = .returned (.bool true) ∧ ∃ k, w' = w.drewN k := by
  go_enter Try.func8, Try.ntmps8
  go_wp2_with (first | (go_at_call 12; refine (counts_any _).mono ?_; rintro e w' ⟨rfl, rfl⟩) | (go_at_call 33; ((with_reducible refine (whole_bad _ hx hf _).mono ?_); rintro e w' ⟨rfl, k, rfl⟩)) | (go_at_call 34; refine (rwhole_bad _ hx hf _).mono ?_; rintro e w' ⟨rfl, rfl⟩) | (go_at_call 11; refine (wrap_any _ _).mono ?_; rintro e w' ⟨rfl, rfl⟩) | (go_at_call 26; refine (ofInt_any _ _).mono ?_; rintro e w' ⟨rfl, rfl⟩) | (go_at_call 35; refine (rof_any _ _).mono ?_; rintro e w' ⟨rfl, rfl⟩; rw [show canon (floatOfInt .f64 (wr n)) = floatOfInt .f64 (wr n) from canon_of (nearest_not_nan _ _ _)]))
  go_ret
  exact ⟨rfl, _, rfl⟩
theorem wholes_bad_hi (x : Nat) (n : Int) (hx : x < 18446744073709551616) (hf : fits x = false) (h1 : 9007199254740992 < wr n) (w : World) : Calls Try.prog 8 #[.int .u64 x, .int .i64 n] w fun e w' => e = .returned (.bool true) ∧ ∃ k, w' = w.drewN k := by
  go_enter Try.func8, Try.ntmps8
  go_wp2_with (first | (go_at_call 12; refine (counts_any _).mono ?_; rintro e w' ⟨rfl, rfl⟩) | (go_at_call 33; ((with_reducible refine (whole_bad _ hx hf _).mono ?_); rintro e w' ⟨rfl, k, rfl⟩)) | (go_at_call 34; refine (rwhole_bad _ hx hf _).mono ?_; rintro e w' ⟨rfl, rfl⟩) | (go_at_call 11; refine (wrap_any _ _).mono ?_; rintro e w' ⟨rfl, rfl⟩) | (go_at_call 26; refine (ofInt_any _ _).mono ?_; rintro e w' ⟨rfl, rfl⟩) | (go_at_call 35; refine (rof_any _ _).mono ?_; rintro e w' ⟨rfl, rfl⟩; rw [show canon (floatOfInt .f64 (wr n)) = floatOfInt .f64 (wr n) from canon_of (nearest_not_nan _ _ _)]))
  go_ret
  exact ⟨rfl, _, rfl⟩
theorem wholes_ok_in (x : Nat) (n : Int) (hx : x < 18446744073709551616) (hf : fits x = true) (h1 : wr n ≤ 9007199254740992) (h2 : -9007199254740992 ≤ wr n) (w : World) : Calls Try.prog 8 #[.int .u64 x, .int .i64 n] w fun e w' => e = .returned (.bool true) ∧ ∃ k, w' = w.drewN k := by
  obtain ⟨q1, q2, q3⟩ := ofInt_whole (wr n) h2 h1
  have H := Lib.hid q3
  clear q3
  go_enter Try.func8, Try.ntmps8
  go_wp2_with (first | (go_at_call 33; ((with_reducible refine (whole_ok (floatOfInt .f64 (wr n)) q1 q2 _).mono ?_); rintro e w' ⟨rfl, rfl⟩; rw [H.out])) | (go_at_call 12; refine (counts_any _).mono ?_; rintro e w' ⟨rfl, rfl⟩) | (go_at_call 33; ((with_reducible refine (whole_ok _ hx hf _).mono ?_); rintro e w' ⟨rfl, rfl⟩)) | (go_at_call 34; refine (rwhole_ok _ hx hf _).mono ?_; rintro e w' ⟨rfl, rfl⟩) | (go_at_call 11; refine (wrap_any _ _).mono ?_; rintro e w' ⟨rfl, rfl⟩) | (go_at_call 26; refine (ofInt_any _ _).mono ?_; rintro e w' ⟨rfl, rfl⟩) | (go_at_call 35; refine (rof_any _ _).mono ?_; rintro e w' ⟨rfl, rfl⟩; rw [show canon (floatOfInt .f64 (wr n)) = floatOfInt .f64 (wr n) from canon_of (nearest_not_nan _ _ _)]))
  go_ret
  exact ⟨rfl, 0, rfl⟩
theorem wholes_ok_lo (x : Nat) (n : Int) (hx : x < 18446744073709551616) (hf : fits x = true) (h1 : wr n ≤ 9007199254740992) (h2 : wr n < -9007199254740992) (w : World) : Calls Try.prog 8 #[.int .u64 x, .int .i64 n] w fun e w' => e = .returned (.bool true) ∧ ∃ k, w' = w.drewN k := by
  go_enter Try.func8, Try.ntmps8
  go_wp2_with (first | (go_at_call 12; refine (counts_any _).mono ?_; rintro e w' ⟨rfl, rfl⟩) | (go_at_call 33; ((with_reducible refine (whole_ok _ hx hf _).mono ?_); rintro e w' ⟨rfl, rfl⟩)) | (go_at_call 34; refine (rwhole_ok _ hx hf _).mono ?_; rintro e w' ⟨rfl, rfl⟩) | (go_at_call 11; refine (wrap_any _ _).mono ?_; rintro e w' ⟨rfl, rfl⟩) | (go_at_call 26; refine (ofInt_any _ _).mono ?_; rintro e w' ⟨rfl, rfl⟩) | (go_at_call 35; refine (rof_any _ _).mono ?_; rintro e w' ⟨rfl, rfl⟩; rw [show canon (floatOfInt .f64 (wr n)) = floatOfInt .f64 (wr n) from canon_of (nearest_not_nan _ _ _)]))
  go_ret
  exact ⟨rfl, 0, rfl⟩
theorem wholes_ok_hi (x : Nat) (n : Int) (hx : x < 18446744073709551616) (hf : fits x = true) (h1 : 9007199254740992 < wr n) (w : World) : Calls Try.prog 8 #[.int .u64 x, .int .i64 n] w fun e w' => e = .returned (.bool true) ∧ ∃ k, w' = w.drewN k := by
  go_enter Try.func8, Try.ntmps8
  go_wp2_with (first | (go_at_call 12; refine (counts_any _).mono ?_; rintro e w' ⟨rfl, rfl⟩) | (go_at_call 33; ((with_reducible refine (whole_ok _ hx hf _).mono ?_); rintro e w' ⟨rfl, rfl⟩)) | (go_at_call 34; refine (rwhole_ok _ hx hf _).mono ?_; rintro e w' ⟨rfl, rfl⟩) | (go_at_call 11; refine (wrap_any _ _).mono ?_; rintro e w' ⟨rfl, rfl⟩) | (go_at_call 26; refine (ofInt_any _ _).mono ?_; rintro e w' ⟨rfl, rfl⟩) | (go_at_call 35; refine (rof_any _ _).mono ?_; rintro e w' ⟨rfl, rfl⟩; rw [show canon (floatOfInt .f64 (wr n)) = floatOfInt .f64 (wr n) from canon_of (nearest_not_nan _ _ _)]))
  go_ret
  exact ⟨rfl, 0, rfl⟩

theorem wholes_walk (x : Nat) (n : Int) (hx : x < 18446744073709551616) (w : World) : Calls Try.prog 8 #[.int .u64 x, .int .i64 n] w fun e w' => e = .returned (.bool true) ∧ ∃ k, w' = w.drewN k := by
  cases hf : fits x
  · by_cases h1 : wr n ≤ 9007199254740992
    · by_cases h2 : -9007199254740992 ≤ wr n
      · exact wholes_bad_in x n hx hf h1 h2 w
      · exact wholes_bad_lo x n hx hf h1 (by omega) w
    · exact wholes_bad_hi x n hx hf (by omega) w
  · by_cases h1 : wr n ≤ 9007199254740992
    · by_cases h2 : -9007199254740992 ≤ wr n
      · exact wholes_ok_in x n hx hf h1 h2 w
      · exact wholes_ok_lo x n hx hf h1 (by omega) w
    · exact wholes_ok_hi x n hx hf (by omega) w
end Go.Proofs.Ytljpecbejaiphaa
