/- Plain facts on IEEE's double format: a number that the format has is written as the word that stands for it. -/
import Derived.Test.YtlailomhgipppaaGreatDoorIeee
namespace Go.Proofs.YtlailomhgipppaaGreatDoor
open Ieee
set_option linter.unusedSimpArgs false
set_option linter.unusedVariables false

/-- What a rung stands for, in units of the least number. -/
def val (r : Nat) : Nat := if r < 4503599627370496 then r else (4503599627370496 + r % 4503599627370496) * 2 ^ (r / 4503599627370496 - 1)

theorem log2_mul_pow (m a : Nat) (hm : m ≠ 0) : (m * 2 ^ a).log2 = m.log2 + a := by
  have h0 : m * 2 ^ a ≠ 0 := Nat.mul_ne_zero hm (by have := Nat.two_pow_pos a; omega)
  have h1 : 2 ^ m.log2 ≤ m := (Nat.le_log2 hm).1 (Nat.le_refl _)
  have h2 : m < 2 ^ (m.log2 + 1) := (Nat.log2_lt hm).1 (Nat.lt_succ_self _)
  apply Nat.le_antisymm
  · apply Nat.le_of_lt_succ
    rw [Nat.log2_lt h0, show (m.log2 + a).succ = (m.log2 + 1) + a from by omega, Nat.pow_add]
    exact Nat.mul_lt_mul_of_pos_right h2 (Nat.two_pow_pos a)
  · rw [Nat.le_log2 h0, Nat.pow_add]
    exact Nat.mul_le_mul_right _ h1

theorem log2_of (n k : Nat) (h1 : 2 ^ k ≤ n) (h2 : n < 2 ^ (k + 1)) : n.log2 = k := by
  have h0 : n ≠ 0 := by have := Nat.two_pow_pos k; omega
  have a := (Nat.le_log2 h0).2 h1
  have b := (Nat.log2_lt h0).2 h2
  omega

/-- A quotient without a rest is cut to itself. -/
theorem cut_exact (way : Toward) (neg : Bool) (q d : Nat) (hq : q ≠ 0) : way.cut neg (q * 2 ^ d) d = q := by
  have hd : d ≤ (q * 2 ^ d).log2 + 2 := by rw [log2_mul_pow _ _ hq]; omega
  have hp := Nat.two_pow_pos d
  unfold Toward.cut
  rw [Nat.min_eq_left hd, Nat.one_shiftLeft]
  simp only [Nat.mul_mod_left, Nat.mul_div_cancel q hp]
  cases way <;> simp

theorem nearest_exact (neg : Bool) (r m : Nat) (p : Int) (hr : r < 9218868437227405312)
    (h : m * 2 ^ (p + 1074).toNat = val r * 2 ^ (-(p + 1074)).toNat) : double.nearest neg m p = double.word neg r := by
  have hfb : double.fractionBits = 52 := rfl
  by_cases hm : m = 0
  · subst hm
    have hv : val r = 0 := by
      rw [Nat.zero_mul] at h
      rcases Nat.mul_eq_zero.1 h.symm with e | e
      · exact e
      · have := Nat.two_pow_pos (-(p + 1074)).toNat; omega
    have hr0 : r = 0 := by
      unfold val at hv
      split at hv
      · exact hv
      · rcases Nat.mul_eq_zero.1 hv with e | e
        · omega
        · have := Nat.two_pow_pos (r / 4503599627370496 - 1); omega
    subst hr0
    unfold Format.nearest
    rw [if_pos rfl]
  · obtain ⟨q, L, hv, hrq, hq0, hlog⟩ : ∃ q L : Nat, val r = q * 2 ^ L ∧ L * 4503599627370496 + q = r ∧ q ≠ 0 ∧
        max ((val r).log2 - 52 : Int) 0 = L := by
      have hv0 : val r ≠ 0 := by
        intro e
        rw [e, Nat.zero_mul] at h
        rcases Nat.mul_eq_zero.1 h with e | e
        · exact hm e
        · have := Nat.two_pow_pos (p + 1074).toNat; omega
      unfold val at hv0 ⊢
      split
      · rename_i hlt
        rw [if_pos hlt] at hv0
        refine ⟨r, 0, by simp, by omega, hv0, ?_⟩
        have := (Nat.log2_lt (k := 52) hv0).2 (by simpa using hlt)
        omega
      · rename_i hge
        refine ⟨4503599627370496 + r % 4503599627370496, r / 4503599627370496 - 1, rfl, by omega, by omega, ?_⟩
        rw [log2_mul_pow _ _ (by omega), log2_of (4503599627370496 + r % 4503599627370496) 52 (by omega) (by omega)]
        omega
    have hl : (m.log2 : Int) + (p + 1074) = (val r).log2 := by
      have e := congrArg Nat.log2 h
      have hv0 : val r ≠ 0 := by rw [hv]; exact Nat.mul_ne_zero hq0 (by have := Nat.two_pow_pos L; omega)
      rw [log2_mul_pow _ _ hm, log2_mul_pow _ _ hv0] at e
      omega
    have hlast : max (p + m.log2 - 52) (-1074) = -1074 + (L : Int) := by omega
    have hmul : m * 2 ^ (p + 1074 - L).toNat = q * 2 ^ (L - (p + 1074)).toNat := by
      rw [hv] at h
      generalize p + 1074 = E at h ⊢
      by_cases h1 : 0 ≤ E
      · have e0 : (-E).toNat = 0 := by omega
        rw [e0, Nat.pow_zero, Nat.mul_one] at h
        by_cases h2 : (L : Int) ≤ E
        · have e1 : (L - E).toNat = 0 := by omega
          have e2 : E.toNat = (E - L).toNat + L := by omega
          rw [e2, Nat.pow_add, ← Nat.mul_assoc] at h
          rw [e1, Nat.pow_zero, Nat.mul_one]
          exact Nat.eq_of_mul_eq_mul_right (Nat.two_pow_pos L) h
        · have e1 : (E - L).toNat = 0 := by omega
          have e2 : L = (L - E).toNat + E.toNat := by omega
          rw [e2, Nat.pow_add, ← Nat.mul_assoc] at h
          rw [e1, Nat.pow_zero, Nat.mul_one]
          have := Nat.eq_of_mul_eq_mul_right (Nat.two_pow_pos E.toNat) h
          rw [this]
      · have e0 : E.toNat = 0 := by omega
        have e1 : (E - L).toNat = 0 := by omega
        rw [e0, Nat.pow_zero, Nat.mul_one, Nat.mul_assoc, ← Nat.pow_add] at h
        rw [e1, Nat.pow_zero, Nat.mul_one, h]
        congr 2
        omega
    unfold Format.nearest
    rw [if_neg hm]
    simp only [hfb, lp, bin, inf]
    rw [show ((52 : Nat) : Int) = 52 from rfl, hlast, Nat.shiftLeft_eq]
    rw [show (p - (-1074 + (L : Int))).toNat = (p + 1074 - L).toNat from by omega, show (-1074 + (L : Int) - p).toNat = (L - (p + 1074)).toNat from by omega, hmul, cut_exact _ _ _ _ hq0]
    rw [show ((-1074 + (L : Int)) - -1074).toNat = L from by omega, hrq, Nat.min_eq_left (by omega)]

theorem val_step (r : Nat) : val r < val (r + 1) := by
  unfold val
  by_cases h : r + 1 < 4503599627370496
  · rw [if_pos h, if_pos (by omega)]; omega
  · rw [if_neg h]
    by_cases h2 : r < 4503599627370496
    · rw [if_pos h2]
      obtain rfl : r = 4503599627370495 := by omega
      decide
    · rw [if_neg h2]
      by_cases h3 : (r + 1) % 4503599627370496 = 0
      · rw [h3, show r % 4503599627370496 = 4503599627370495 from by omega, show (r + 1) / 4503599627370496 - 1 = (r / 4503599627370496 - 1) + 1 from by omega, Nat.pow_succ]
        have := Nat.two_pow_pos (r / 4503599627370496 - 1)
        omega
      · rw [show (r + 1) / 4503599627370496 = r / 4503599627370496 from by omega, show (r + 1) % 4503599627370496 = r % 4503599627370496 + 1 from by omega]
        exact Nat.mul_lt_mul_of_pos_right (by omega) (Nat.two_pow_pos _)

theorem val_lt {a b : Nat} (h : a < b) : val a < val b := by
  induction b with
  | zero => omega
  | succ b ih =>
    by_cases e : a = b
    · subst e; exact val_step a
    · exact Nat.lt_trans (ih (by omega)) (val_step b)

theorem val_lt_iff (a b : Nat) : val a < val b ↔ a < b := by
  refine ⟨fun h => ?_, val_lt⟩
  by_cases h1 : a < b
  · exact h1
  · by_cases e : a = b
    · subst e; omega
    · have := val_lt (a := b) (b := a) (by omega); omega

theorem val_zero : val 0 = 0 := by decide

/-- What a word that is a number, or infinite, stands for, in units of the least number. -/
def sv (x : Nat) : Int := if x / 9223372036854775808 % 2 == 1 then -(val (x % 9223372036854775808) : Int) else val (x % 9223372036854775808)

/-- A finite word as it is read. -/
theorem read_finite {x : Nat} (h : x % 9223372036854775808 < 9218868437227405312) : ∃ m p, double.read x = .number (x / 9223372036854775808 % 2 == 1) m p ∧ -1074 ≤ p ∧ m * 2 ^ (p + 1074).toNat = val (x % 9223372036854775808) := by
  rw [rd, if_pos h]
  split
  · rename_i h1
    exact ⟨_, _, rfl, by omega, by simp [val, h1]⟩
  · rename_i h1
    refine ⟨_, _, rfl, by omega, ?_⟩
    rw [val, if_neg h1]
    congr 2
    omega

theorem read_inf {x : Nat} (h : x % 9223372036854775808 = 9218868437227405312) : double.read x = .infinity (x / 9223372036854775808 % 2 == 1) := by
  rw [rd, if_neg (by omega), if_neg (by omega), if_pos h]

theorem word_self (x : Nat) (hx : x < 18446744073709551616) : double.word (x / 9223372036854775808 % 2 == 1) (x % 9223372036854775808) = x := by
  unfold Format.word
  rw [sw]
  by_cases h : x < 9223372036854775808
  · rw [if_neg (by simp; omega)]; omega
  · rw [if_pos (by simp; omega)]; omega

/-- A finite word, read and written again in other units. -/
theorem nearest_read {x : Nat} (hx : x < 18446744073709551616) (h : x % 9223372036854775808 < 9218868437227405312) {s : Bool} {m : Nat} {p : Int} (hr : double.read x = .number s m p) (k : Nat) :
    double.nearest s (m * 2 ^ k) (p - k) = x := by
  obtain ⟨m', p', e, hp, hv⟩ := read_finite h
  rw [e] at hr
  cases hr
  refine (nearest_exact _ (x % 9223372036854775808) _ _ h ?_).trans (word_self x hx)
  rw [← hv, Nat.mul_assoc, Nat.mul_assoc, ← Nat.pow_add, ← Nat.pow_add]
  congr 2
  omega

theorem write_read {x : Nat} (hx : x < 18446744073709551616) (h : isNan x = false) : double.write (double.read x) = x := by
  have h' : x % 9223372036854775808 ≤ 9218868437227405312 := by simpa [isNan] using h
  by_cases h1 : x % 9223372036854775808 < 9218868437227405312
  · obtain ⟨m, p, e, _, _⟩ := read_finite h1
    have := nearest_read hx h1 e 0
    rw [e]
    simpa [Format.write] using this
  · rw [read_inf (by omega)]
    have := word_self x hx
    simp only [Format.write]
    rw [inf, show (9218868437227405312 : Nat) = x % 9223372036854775808 from by omega, this]

theorem compare_scale (a b : Int) (c : Nat) (hc : 0 < c) : compare (a * c) (b * c) = compare a b := by
  have hc' : (0 : Int) < c := by omega
  simp only [compare, compareOfLessAndEq]
  have h1 : a * (c : Int) < b * c ↔ a < b := ⟨fun h => Int.lt_of_mul_lt_mul_right h (by omega), fun h => Int.mul_lt_mul_of_pos_right h hc'⟩
  have h2 : a * (c : Int) = b * c ↔ a = b := ⟨fun h => Int.eq_of_mul_eq_mul_right (by omega) h, fun h => by rw [h]⟩
  simp only [h1, h2]

theorem signed_scale (s : Bool) (m : Nat) (i base : Int) (h1 : base ≤ i) (h2 : -1074 ≤ base) : signed s m (i - base).toNat * ((2 ^ (base + 1074).toNat : Nat) : Int) = if s then -((m * 2 ^ (i + 1074).toNat : Nat) : Int) else ((m * 2 ^ (i + 1074).toNat : Nat) : Int) := by
  have e : m * 2 ^ (i + 1074).toNat = m <<< (i - base).toNat * 2 ^ (base + 1074).toNat := by
    rw [Nat.shiftLeft_eq, Nat.mul_assoc, ← Nat.pow_add]
    congr 2
    omega
  rw [e]
  unfold signed
  cases s
  · simp only [Bool.false_eq_true, if_false, Int.natCast_mul]
  · simp only [if_true, Int.natCast_mul, Int.neg_mul]

theorem cmp_lt {a b : Int} (h : a < b) : compare a b = .lt := by simp [compare, compareOfLessAndEq, h]
theorem cmp_gt {a b : Int} (h : b < a) : compare a b = .gt := by simp [compare, compareOfLessAndEq, show ¬ a < b from by omega, show ¬ a = b from by omega]
theorem cmp_eq {a b : Int} (h : a = b) : compare a b = .eq := by simp [compare, compareOfLessAndEq, h]

/-- How words stand to each other: as what they stand for. -/
theorem order_sv {x y : Nat} (hx : isNan x = false) (hy : isNan y = false) : double.order x y = some (compare (sv x) (sv y)) := by
  have hx' : x % 9223372036854775808 ≤ 9218868437227405312 := by simpa [isNan] using hx
  have hy' : y % 9223372036854775808 ≤ 9218868437227405312 := by simpa [isNan] using hy
  unfold Format.order
  by_cases h1 : x % 9223372036854775808 < 9218868437227405312 <;> by_cases h2 : y % 9223372036854775808 < 9218868437227405312
  · obtain ⟨m, i, e, hi, hv⟩ := read_finite h1
    obtain ⟨n, j, e', hj, hv'⟩ := read_finite h2
    rw [e, e']
    simp only [Datum.order]
    congr 1
    have hb : -1074 ≤ min i j := by omega
    rw [← compare_scale _ _ (2 ^ (min i j + 1074).toNat) (Nat.two_pow_pos _), signed_scale _ m i _ (Int.min_le_left ..) hb, signed_scale _ n j _ (Int.min_le_right ..) hb, hv, hv']
    rfl
  · obtain ⟨m, i, e, hi, hv⟩ := read_finite h1
    rw [e, read_inf (by omega)]
    simp only [Datum.order]
    have hl := val_lt (a := x % 9223372036854775808) (b := y % 9223372036854775808) (by omega)
    unfold sv
    cases (x / 9223372036854775808 % 2 == 1) <;> cases (y / 9223372036854775808 % 2 == 1) <;> simp only [Bool.false_eq_true, if_false, if_true]
    all_goals first | rw [cmp_lt (by omega)] | rw [cmp_gt (by omega)]
  · obtain ⟨m, i, e, hi, hv⟩ := read_finite h2
    rw [e, read_inf (by omega)]
    simp only [Datum.order]
    have hl := val_lt (a := y % 9223372036854775808) (b := x % 9223372036854775808) (by omega)
    unfold sv
    cases (x / 9223372036854775808 % 2 == 1) <;> cases (y / 9223372036854775808 % 2 == 1) <;> simp only [Bool.false_eq_true, if_false, if_true]
    all_goals first | rw [cmp_lt (by omega)] | rw [cmp_gt (by omega)]
  · rw [read_inf (by omega), read_inf (by omega)]
    simp only [Datum.order]
    have hl : 0 < val 9218868437227405312 := by have := val_lt (a := 0) (b := 9218868437227405312) (by omega); omega
    unfold sv
    rw [show x % 9223372036854775808 = 9218868437227405312 from by omega, show y % 9223372036854775808 = 9218868437227405312 from by omega]
    generalize val 9218868437227405312 = v at *
    cases (x / 9223372036854775808 % 2 == 1) <;> cases (y / 9223372036854775808 % 2 == 1) <;> simp only [Bool.false_eq_true, if_false, if_true]
    all_goals first | rw [cmp_eq (by omega)] | rw [cmp_lt (by omega)] | rw [cmp_gt (by omega)]
    all_goals rfl

theorem order_nan_l {x y : Nat} (h : isNan x = true) : double.order x y = none := by
  obtain ⟨s, t, e⟩ := read_nan h
  unfold Format.order
  rw [e]; rfl
theorem order_nan_r {x y : Nat} (h : isNan y = true) : double.order x y = none := by
  obtain ⟨s, t, e⟩ := read_nan h
  unfold Format.order
  rw [e]; cases double.read x <;> rfl
end Go.Proofs.YtlailomhgipppaaGreatDoor
