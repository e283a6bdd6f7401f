/- The law NumWholes: the reference's Whole, and the walk. -/
import Derived.Test.YtljpecbejaiphaaWhole2
namespace Go.Proofs.Ytljpecbejaiphaa
open Go.RowKit Ieee

def eOf (x : Nat) : Nat := x / 4503599627370496 % 2048
def mOf (x : Nat) : Nat := x % 4503599627370496

theorem rung_of (x : Nat) : x % 9223372036854775808 = eOf x * 4503599627370496 + mOf x := by unfold eOf mOf; omega
theorem mOf_lt (x : Nat) : mOf x < 4503599627370496 := by unfold mOf; omega
theorem eOf_lt (x : Nat) : eOf x < 2048 := by unfold eOf; omega

theorem floor_of {x : Nat} (h : 1 ≤ eOf x) : floorOf x = (mOf x + 4503599627370496) * 2 ^ (eOf x - 1) / TT := by
  unfold floorOf
  have := mOf_lt x
  rw [rung_of, show eOf x * 4503599627370496 + mOf x = (eOf x - 1) * 4503599627370496 + (mOf x + 4503599627370496) from by omega, val_mk _ _ (by omega) (by omega)]

theorem floor_low {x : Nat} (h : eOf x < 1023) : floorOf x = 0 := by
  unfold floorOf
  have h1 := mOf_lt x
  have h2 := val_lt (a := x % 9223372036854775808) (b := 1022 * 4503599627370496 + 4503599627370496) (by rw [rung_of]; omega)
  rw [val_mk _ _ (by omega) (by omega)] at h2
  have e : 4503599627370496 * 2 ^ 1022 = TT := by decide +kernel
  rw [e] at h2
  exact Nat.div_eq_of_lt h2

theorem floor_mid {x : Nat} (h1 : 1023 ≤ eOf x) (h2 : eOf x ≤ 1075) : floorOf x = (mOf x + 4503599627370496) / 2 ^ (1075 - eOf x) := by
  rw [floor_of (by omega)]
  have e : TT = 2 ^ (1075 - eOf x) * 2 ^ (eOf x - 1) := by
    rw [← Nat.pow_add, show 1075 - eOf x + (eOf x - 1) = 0 + EE from by rw [EE_eq]; omega, TT_add, Nat.pow_zero, Nat.one_mul]
  rw [e, Nat.mul_div_mul_right _ _ (Nat.two_pow_pos _)]

theorem floor_high {x : Nat} (h1 : 1075 ≤ eOf x) : floorOf x = (mOf x + 4503599627370496) * 2 ^ (eOf x - 1075) := by
  rw [floor_of (by omega), show eOf x - 1 = eOf x - 1075 + EE from by rw [EE_eq]; omega, TT_add, ← Nat.mul_assoc, Nat.mul_div_cancel _ TT_pos]

theorem pow_div_le (m k : Nat) (hm : m < 4503599627370496) : (m + 4503599627370496) / 2 ^ k < 9007199254740992 :=
  Nat.lt_of_le_of_lt (Nat.div_le_self _ _) (by omega)

theorem pow_mul_le (m k : Nat) (hm : m < 4503599627370496) (hk : k ≤ 9) : (m + 4503599627370496) * 2 ^ k < 4611686018427387904 := by
  have h : 2 ^ k ≤ 512 := Nat.pow_le_pow_right (n := 2) (j := 9) (by omega) hk
  have := Nat.mul_le_mul_left (m + 4503599627370496) h
  omega

theorem pow_mul_ge (m k : Nat) (hk : 10 ≤ k) : 4611686018427387904 ≤ (m + 4503599627370496) * 2 ^ k := by
  have h : 1024 ≤ 2 ^ k := Nat.pow_le_pow_right (n := 2) (i := 10) (by omega) hk
  have h2 := Nat.mul_le_mul_left (m + 4503599627370496) h
  clear h
  have h3 : 4503599627370496 * 1024 ≤ (m + 4503599627370496) * 1024 := Nat.mul_le_mul_right 1024 (Nat.le_add_left _ _)
  exact Nat.le_trans h3 h2

theorem pow_mul_gt (m k : Nat) (hk : 11 ≤ k ∨ (10 ≤ k ∧ 0 < m)) : 4611686018427387904 < (m + 4503599627370496) * 2 ^ k := by
  rcases hk with hk | ⟨hk, h0⟩
  · have h : 2048 ≤ 2 ^ k := Nat.pow_le_pow_right (n := 2) (i := 11) (by omega) hk
    have h2 := Nat.mul_le_mul_left (m + 4503599627370496) h
    generalize (m + 4503599627370496) * 2 ^ k = z at *
    omega
  · have h : 1024 ≤ 2 ^ k := Nat.pow_le_pow_right (n := 2) (i := 10) (by omega) hk
    have h2 := Nat.mul_le_mul_left (m + 4503599627370496) h
    generalize (m + 4503599627370496) * 2 ^ k = z at *
    omega

theorem fits_inf {x : Nat} (h : eOf x = 2047) : fits x = false := by
  have := rung_of x
  simp only [fits, finite]
  rw [decide_eq_false (by omega)]; rfl

theorem fits_of {x : Nat} (h : eOf x < 2047) (h2 : floorOf x < 4611686018427387904) : fits x = true := by
  have := rung_of x
  have := mOf_lt x
  simp only [fits, finite]
  rw [decide_eq_true (by omega), Bool.true_and, decide_eq_true]
  unfold whole
  split <;> omega

theorem fits_big {x : Nat} (hx : x < 18446744073709551616) (h : eOf x < 2047) (h2 : 1085 ≤ eOf x) (h3 : x ≠ 14109777632551763968) : fits x = false := by
  have r := rung_of x
  have m := mOf_lt x
  simp only [fits]
  suffices hs : ¬ (-4611686018427387904 ≤ whole x ∧ whole x < 4611686018427387904) by rw [decide_eq_false hs, Bool.and_false]
  unfold whole
  rw [floor_high (by omega)]
  by_cases h4 : x < 9223372036854775808
  · rw [if_pos h4]
    have := pow_mul_ge (mOf x) (eOf x - 1075) (by omega)
    omega
  · rw [if_neg h4]
    have := pow_mul_gt (mOf x) (eOf x - 1075) (by omega)
    omega

theorem least_fits : fits 14109777632551763968 = true ∧ whole 14109777632551763968 = -4611686018427387904 := by
  have e : eOf 14109777632551763968 = 1085 := by decide
  have m : mOf 14109777632551763968 = 0 := by decide
  have f : floorOf 14109777632551763968 = 4611686018427387904 := by rw [floor_high (by omega), e, m]
  have h : whole 14109777632551763968 = -4611686018427387904 := by unfold whole; rw [if_neg (by omega), f]; rfl
  refine ⟨?_, h⟩
  simp only [fits, h]
  decide

theorem hE (x : Nat) (hx : x < 18446744073709551616) : bits .and .u64 ((x : Int) / 4503599627370496) 2047 = ((eOf x : Nat) : Int) := by
  rw [show ((x : Int) / 4503599627370496) = ((x / 4503599627370496 : Nat) : Int) from by omega, show (2047 : Int) = ((2047 : Nat) : Int) from rfl, u64_and_nat _ _ (by omega) (by omega), nat_mask11]; rfl
theorem hM (x : Nat) (hx : x < 18446744073709551616) : bits .and .u64 (x : Int) 4503599627370495 = ((mOf x : Nat) : Int) := by
  rw [show (4503599627370495 : Int) = ((4503599627370495 : Nat) : Int) from rfl, u64_and_nat _ _ (by omega) (by omega)]
  rw [show (4503599627370495 : Nat) = 2 ^ 52 - 1 from by decide, Nat.and_two_pow_sub_one_eq_mod]; rfl

theorem ret_two {k l : IntKind} {a b c d : Int} (h : a = b) (h' : c = d) : Ending.returned (.tuple #[.int k a, .int l c]) = .returned (.tuple #[.int k b, .int l d]) := by rw [h, h']
theorem wrap_id (n : Int) (h1 : -9223372036854775808 ≤ n) (h2 : n ≤ 9223372036854775807) : wrap64 n = n := by unfold wrap64; omega
theorem mid_cast (m k : Nat) : ((m : Int) + 4503599627370496) / 2 ^ k = (((m + 4503599627370496) / 2 ^ k : Nat) : Int) := by rw [Int.natCast_ediv, Int.natCast_add, Int.natCast_pow]; rfl
theorem high_cast (m k : Nat) : ((m : Int) + 4503599627370496) * 2 ^ k = (((m + 4503599627370496) * 2 ^ k : Nat) : Int) := by rw [Int.natCast_mul, Int.natCast_add, Int.natCast_pow]; rfl
theorem mid_neg (m k : Nat) (hm : m < 4503599627370496) : wrap64 (-(((m : Int) + 4503599627370496) / 2 ^ k)) = -(((m + 4503599627370496) / 2 ^ k : Nat) : Int) := by
  have := pow_div_le m k hm
  rw [mid_cast]
  generalize (m + 4503599627370496) / 2 ^ k = z at *
  rw [wrap_id _ (by omega) (by omega)]
theorem high_pos (m k : Nat) (hm : m < 4503599627370496) (hk : k ≤ 9) : wrap64 (((m : Int) + 4503599627370496) * 2 ^ k) = (((m + 4503599627370496) * 2 ^ k : Nat) : Int) := by
  have := pow_mul_le m k hm hk
  rw [high_cast]
  generalize (m + 4503599627370496) * 2 ^ k = z at *
  rw [wrap_id _ (by omega) (by omega)]
theorem high_neg (m k : Nat) (hm : m < 4503599627370496) (hk : k ≤ 9) : wrap64 (-wrap64 (((m : Int) + 4503599627370496) * 2 ^ k)) = -(((m + 4503599627370496) * 2 ^ k : Nat) : Int) := by
  have := pow_mul_le m k hm hk
  rw [high_pos m k hm hk]
  generalize (m + 4503599627370496) * 2 ^ k = z at *
  rw [wrap_id _ (by omega) (by omega)]

set_option maxRecDepth 100000 in
theorem rwhole_mid_p (x e m : Nat) (he : bits .and .u64 ((x : Int) / 4503599627370496) 2047 = (e : Int)) (hm : bits .and .u64 (x : Int) 4503599627370495 = (m : Int)) (m1 : m < 4503599627370496) (e1 : 1023 ≤ e) (e2 : e ≤ 1075) (hb : ((x : Int) / 9223372036854775808 == 1) = false) (w : World) :
    Calls Try.prog 34 #[.int .u64 x] w fun e' w' => e' = .returned (.tuple #[.int .i64 ((((m + 4503599627370496) / 2 ^ (1075 - e) : Nat) : Int)), .int .i64 0]) ∧ w = w' := by
  go_enter Try.func34, Try.ntmps34
  go_wp2
  go_ret2
  exact ⟨ret_two (mid_cast m _) rfl, rfl⟩

set_option maxRecDepth 100000 in
theorem rwhole_mid_n (x e m : Nat) (he : bits .and .u64 ((x : Int) / 4503599627370496) 2047 = (e : Int)) (hm : bits .and .u64 (x : Int) 4503599627370495 = (m : Int)) (m1 : m < 4503599627370496) (e1 : 1023 ≤ e) (e2 : e ≤ 1075) (hb : ((x : Int) / 9223372036854775808 == 1) = true) (w : World) :
    Calls Try.prog 34 #[.int .u64 x] w fun e' w' => e' = .returned (.tuple #[.int .i64 (-(((m + 4503599627370496) / 2 ^ (1075 - e) : Nat) : Int)), .int .i64 0]) ∧ w = w' := by
  go_enter Try.func34, Try.ntmps34
  go_wp2
  go_ret2
  exact ⟨ret_two (mid_neg m _ m1) rfl, rfl⟩

set_option maxRecDepth 100000 in
theorem rwhole_high_p (x e m : Nat) (he : bits .and .u64 ((x : Int) / 4503599627370496) 2047 = (e : Int)) (hm : bits .and .u64 (x : Int) 4503599627370495 = (m : Int)) (m1 : m < 4503599627370496) (e1 : 1076 ≤ e) (e2 : e ≤ 1084) (hb : ((x : Int) / 9223372036854775808 == 1) = false) (w : World) :
    Calls Try.prog 34 #[.int .u64 x] w fun e' w' => e' = .returned (.tuple #[.int .i64 ((((m + 4503599627370496) * 2 ^ (e - 1075) : Nat) : Int)), .int .i64 0]) ∧ w = w' := by
  go_enter Try.func34, Try.ntmps34
  go_wp2
  go_ret2
  exact ⟨ret_two (high_pos m _ m1 (by omega)) rfl, rfl⟩

set_option maxRecDepth 100000 in
theorem rwhole_high_n (x e m : Nat) (he : bits .and .u64 ((x : Int) / 4503599627370496) 2047 = (e : Int)) (hm : bits .and .u64 (x : Int) 4503599627370495 = (m : Int)) (m1 : m < 4503599627370496) (e1 : 1076 ≤ e) (e2 : e ≤ 1084) (hb : ((x : Int) / 9223372036854775808 == 1) = true) (w : World) :
    Calls Try.prog 34 #[.int .u64 x] w fun e' w' => e' = .returned (.tuple #[.int .i64 (-(((m + 4503599627370496) * 2 ^ (e - 1075) : Nat) : Int)), .int .i64 0]) ∧ w = w' := by
  go_enter Try.func34, Try.ntmps34
  go_wp2
  go_ret2
  exact ⟨ret_two (high_neg m _ m1 (by omega)) rfl, rfl⟩

set_option maxRecDepth 100000 in
theorem rwhole_low (x e m : Nat) (he : bits .and .u64 ((x : Int) / 4503599627370496) 2047 = (e : Int)) (hm : bits .and .u64 (x : Int) 4503599627370495 = (m : Int)) (m1 : m < 4503599627370496) (e2 : e < 1023) (w : World) :
    Calls Try.prog 34 #[.int .u64 x] w fun e' w' => e' = .returned (.tuple #[.int .i64 (0), .int .i64 0]) ∧ w = w' := by
  go_enter Try.func34, Try.ntmps34
  go_wp2
  go_ret2
  exact ⟨ret_two (rfl) rfl, rfl⟩

set_option maxRecDepth 100000 in
theorem rwhole_inf (x m : Nat) (he : bits .and .u64 ((x : Int) / 4503599627370496) 2047 = 2047) (hm : bits .and .u64 (x : Int) 4503599627370495 = (m : Int)) (m1 : m < 4503599627370496) (w : World) :
    Calls Try.prog 34 #[.int .u64 x] w fun e' w' => e' = .returned (.tuple #[.int .i64 (0), .int .i64 1]) ∧ w = w' := by
  go_enter Try.func34, Try.ntmps34
  go_wp2
  go_ret2
  exact ⟨ret_two (rfl) rfl, rfl⟩

set_option maxRecDepth 100000 in
theorem rwhole_least (x e m : Nat) (he : bits .and .u64 ((x : Int) / 4503599627370496) 2047 = (e : Int)) (hm : bits .and .u64 (x : Int) 4503599627370495 = (m : Int)) (m1 : m < 4503599627370496) (e1 : 1085 ≤ e) (e2 : e < 2047) (hl : ((x : Int) == 14109777632551763968) = true) (w : World) :
    Calls Try.prog 34 #[.int .u64 x] w fun e' w' => e' = .returned (.tuple #[.int .i64 (-4611686018427387904), .int .i64 0]) ∧ w = w' := by
  go_enter Try.func34, Try.ntmps34
  go_wp2
  go_ret2
  exact ⟨ret_two (rfl) rfl, rfl⟩

set_option maxRecDepth 100000 in
theorem rwhole_big (x e m : Nat) (he : bits .and .u64 ((x : Int) / 4503599627370496) 2047 = (e : Int)) (hm : bits .and .u64 (x : Int) 4503599627370495 = (m : Int)) (m1 : m < 4503599627370496) (e1 : 1085 ≤ e) (e2 : e < 2047) (hl : ((x : Int) == 14109777632551763968) = false) (w : World) :
    Calls Try.prog 34 #[.int .u64 x] w fun e' w' => e' = .returned (.tuple #[.int .i64 (0), .int .i64 1]) ∧ w = w' := by
  go_enter Try.func34, Try.ntmps34
  go_wp2
  go_ret2
  exact ⟨ret_two (rfl) rfl, rfl⟩

theorem rwhole_ok (x : Nat) (hx : x < 18446744073709551616) (hf : fits x = true) (w : World) : Calls Try.prog 34 #[.int .u64 x] w fun e w' => e = .returned (.tuple #[.int .i64 (whole x), .int .i64 0]) ∧ w = w' := by
  have he := hE x hx
  have hm := hM x hx
  have m1 := mOf_lt x
  by_cases c1 : eOf x = 2047
  · rw [fits_inf c1] at hf; cases hf
  have e1 := eOf_lt x
  by_cases c2 : eOf x < 1023
  · have h := rwhole_low x _ _ he hm m1 c2 w
    have hw : whole x = 0 := by unfold whole; rw [floor_low c2]; split <;> rfl
    rw [hw]; exact h
  by_cases c3 : eOf x ≤ 1075
  · by_cases s : x < 9223372036854775808
    · have h := rwhole_mid_p x _ _ he hm m1 (by omega) c3 (by simp; omega) w
      have hw : whole x = (((mOf x + 4503599627370496) / 2 ^ (1075 - eOf x) : Nat) : Int) := by unfold whole; rw [if_pos s, floor_mid (by omega) c3]
      rw [hw]; exact h
    · have h := rwhole_mid_n x _ _ he hm m1 (by omega) c3 (by simp; omega) w
      have hw : whole x = -(((mOf x + 4503599627370496) / 2 ^ (1075 - eOf x) : Nat) : Int) := by unfold whole; rw [if_neg s, floor_mid (by omega) c3]
      rw [hw]; exact h
  by_cases c4 : eOf x ≤ 1084
  · by_cases s : x < 9223372036854775808
    · have h := rwhole_high_p x _ _ he hm m1 (by omega) c4 (by simp; omega) w
      have hw : whole x = (((mOf x + 4503599627370496) * 2 ^ (eOf x - 1075) : Nat) : Int) := by unfold whole; rw [if_pos s, floor_high (by omega)]
      rw [hw]; exact h
    · have h := rwhole_high_n x _ _ he hm m1 (by omega) c4 (by simp; omega) w
      have hw : whole x = -(((mOf x + 4503599627370496) * 2 ^ (eOf x - 1075) : Nat) : Int) := by unfold whole; rw [if_neg s, floor_high (by omega)]
      rw [hw]; exact h
  by_cases c5 : x = 14109777632551763968
  · have h := rwhole_least x _ _ he hm m1 (by omega) (by omega) (by simp; omega) w
    rw [c5, least_fits.2] at *; exact h
  · rw [fits_big hx (by omega) (by omega) c5] at hf; cases hf

theorem rwhole_bad (x : Nat) (hx : x < 18446744073709551616) (hf : fits x = false) (w : World) : Calls Try.prog 34 #[.int .u64 x] w fun e w' => e = .returned (.tuple #[.int .i64 0, .int .i64 1]) ∧ w = w' := by
  have he := hE x hx
  have hm := hM x hx
  have m1 := mOf_lt x
  by_cases c1 : eOf x = 2047
  · exact rwhole_inf x _ (by rw [he, c1]; rfl) hm m1 w
  have e1 := eOf_lt x
  by_cases c4 : eOf x ≤ 1084
  · refine absurd (fits_of (x := x) (by omega) ?_) (by rw [hf]; simp)
    by_cases c2 : eOf x < 1023
    · rw [floor_low c2]; omega
    by_cases c3 : eOf x ≤ 1075
    · rw [floor_mid (by omega) c3]; have := pow_div_le (mOf x) (1075 - eOf x) m1; omega
    · rw [floor_high (by omega)]; exact pow_mul_le _ _ m1 (by omega)
  · refine rwhole_big x _ _ he hm m1 (by omega) (by omega) ?_ w
    simp
    intro h
    have h' : x = 14109777632551763968 := by omega
    rw [h', least_fits.1] at hf
    cases hf

/-- An integer below 2^53, as a float. -/
theorem ofInt_whole (n : Int) (h1 : -9007199254740992 ≤ n) (h2 : n ≤ 9007199254740992) : floatOfInt .f64 n < 18446744073709551616 ∧ fits (floatOfInt .f64 n) = true ∧ whole (floatOfInt .f64 n) = n := by
  obtain ⟨r, hr, hv⟩ := holds_small n.natAbs (by omega)
  have hb : Bears (floatOfInt .f64 n) (decide (n < 0)) n.natAbs := bears_nearest _ _ r hr hv
  have hfl : floorOf (floatOfInt .f64 n) = n.natAbs := by
    unfold floorOf
    rw [hb.num, Nat.mul_div_cancel _ TT_pos]
  have hw : whole (floatOfInt .f64 n) = n := by
    rw [← signed_whole hb.lt, hb.sign, hfl]
    by_cases h : n < 0
    · rw [decide_eq_true h, if_pos rfl]; omega
    · rw [decide_eq_false h, if_neg (by simp)]; omega
  refine ⟨hb.lt, ?_, hw⟩
  simp only [fits, finite, hw]
  rw [decide_eq_true hb.fin, Bool.true_and, decide_eq_true (by omega)]
end Go.Proofs.Ytljpecbejaiphaa
