/- The law NumWholes: the integer of a float and the float of an integer, and the walk. -/
import Derived.Test.YtljpecbejaiphaaZeros
namespace Go.Proofs.Ytljpecbejaiphaa
open Go.RowKit Ieee

/-- How many units are one. -/
def EE : Nat := 1074
theorem EE_eq : EE = 1074 := rfl
def TT : Nat := 2 ^ EE
theorem TT_pos : 0 < TT := Nat.two_pow_pos EE
theorem TT_add (k : Nat) : 2 ^ (k + EE) = 2 ^ k * TT := Nat.pow_add 2 k EE
theorem TT_two : 4503599627370496 * 2 ^ 1075 = 9007199254740992 * TT := by decide +kernel

/-- What is ahead of the point. -/
def floorOf (x : Nat) : Nat := val (x % 9223372036854775808) / TT
def whole (x : Nat) : Int := if x < 9223372036854775808 then (floorOf x : Int) else -(floorOf x : Int)
def finite (x : Nat) : Bool := decide (x % 9223372036854775808 < 9218868437227405312)
def fits (x : Nat) : Bool := finite x && decide (-4611686018427387904 ≤ whole x ∧ whole x < 4611686018427387904)

theorem val_mk (q L : Nat) (h1 : 4503599627370496 ≤ q) (h2 : q < 9007199254740992) : val (L * 4503599627370496 + q) = q * 2 ^ L := by
  unfold val
  rw [if_neg (by omega), show (L * 4503599627370496 + q) % 4503599627370496 = q - 4503599627370496 from by omega, show (L * 4503599627370496 + q) / 4503599627370496 - 1 = L from by omega]
  rw [show 4503599627370496 + (q - 4503599627370496) = q from by omega]

theorem holds_small (T : Nat) (h : T ≤ 9007199254740992) : ∃ r, r < 9218868437227405312 ∧ val r = T * TT := by
  by_cases h0 : T = 0
  · subst h0; exact ⟨0, by omega, val_zero.trans (Nat.zero_mul (TT)).symm⟩
  · by_cases h1 : T = 9007199254740992
    · subst h1
      refine ⟨1075 * 4503599627370496 + 4503599627370496, by omega, ?_⟩
      exact (val_mk 4503599627370496 1075 (by omega) (by omega)).trans TT_two
    · have hk : T.log2 ≤ 52 := by
        have := (Nat.log2_lt (k := 53) h0).2 (by omega)
        omega
      have a : 2 ^ T.log2 ≤ T := (Nat.le_log2 h0).1 (Nat.le_refl _)
      have b : T < 2 ^ (T.log2 + 1) := (Nat.log2_lt h0).1 (Nat.lt_succ_self _)
      have a2 : 4503599627370496 ≤ T * 2 ^ (52 - T.log2) := by
        have := Nat.mul_le_mul_right (2 ^ (52 - T.log2)) a
        rw [← Nat.pow_add, show T.log2 + (52 - T.log2) = 52 from by omega] at this
        exact this
      have b2 : T * 2 ^ (52 - T.log2) < 9007199254740992 := by
        have := Nat.mul_lt_mul_of_pos_right b (Nat.two_pow_pos (52 - T.log2))
        rw [← Nat.pow_add, show T.log2 + 1 + (52 - T.log2) = 53 from by omega] at this
        exact this
      refine ⟨(1022 + T.log2) * 4503599627370496 + T * 2 ^ (52 - T.log2), by omega, ?_⟩
      rw [val_mk _ _ a2 b2, Nat.mul_assoc, ← Nat.pow_add, show 52 - T.log2 + (1022 + T.log2) = 0 + EE from by rw [EE_eq]; omega, TT_add, Nat.pow_zero, Nat.one_mul]

theorem cut_zero (s : Bool) (n d : Nat) : Toward.zero.cut s n d = n / 2 ^ d := by
  unfold Toward.cut
  simp only [Bool.toNat_false, Nat.add_zero]
  rw [Nat.one_shiftLeft]
  by_cases h : d ≤ n.log2 + 2
  · rw [Nat.min_eq_left h]
  · rw [Nat.min_eq_right (by omega)]
    have h1 : n < 2 ^ (n.log2 + 1) := Nat.lt_log2_self
    have h2 : 2 ^ (n.log2 + 1) ≤ 2 ^ (n.log2 + 2) := Nat.pow_le_pow_right (by omega) (by omega)
    have h3 : 2 ^ (n.log2 + 2) ≤ 2 ^ d := Nat.pow_le_pow_right (by omega) (by omega)
    rw [Nat.div_eq_of_lt (by omega), Nat.div_eq_of_lt (by omega)]

/-- A finite word's number, cut towards nought. -/
theorem cut_floor {m : Nat} {p : Int} {v : Nat} (h : m * 2 ^ (p + 1074).toNat = v) (hp : -1074 ≤ p) : m <<< p.toNat / 2 ^ (-p).toNat = v / TT := by
  rw [Nat.shiftLeft_eq, ← h]
  by_cases h0 : 0 ≤ p
  · rw [show (-p).toNat = 0 from by omega, Nat.pow_zero, Nat.div_one, show (p + 1074).toNat = p.toNat + EE from by rw [EE_eq]; omega, TT_add, ← Nat.mul_assoc, Nat.mul_div_cancel _ (TT_pos)]
  · rw [show p.toNat = 0 from by omega, Nat.pow_zero, Nat.mul_one]
    have e : TT = 2 ^ (-p).toNat * 2 ^ (p + 1074).toNat := by rw [← Nat.pow_add, show (-p).toNat + (p + 1074).toNat = 0 + EE from by rw [EE_eq]; omega, TT_add, Nat.pow_zero, Nat.one_mul]
    rw [e, Nat.mul_div_mul_right _ _ (Nat.two_pow_pos _)]

/-- A word that bears a whole number. -/
structure Bears (b : Nat) (s : Bool) (T : Nat) : Prop where
  lt : b < 18446744073709551616
  fin : b % 9223372036854775808 < 9218868437227405312
  sign : (b / 9223372036854775808 % 2 == 1) = s
  num : val (b % 9223372036854775808) = T * TT

theorem bears_word (s : Bool) (T r : Nat) (hr : r < 9218868437227405312) (hv : val r = T * TT) : Bears (double.word s r) s T := by
  unfold Format.word
  rw [sw]
  cases s
  · refine ⟨?_, ?_, ?_, ?_⟩ <;> simp only [Bool.false_eq_true, if_false]
    · omega
    · omega
    · simp; omega
    · rw [Nat.mod_eq_of_lt (by omega), hv]
  · refine ⟨?_, ?_, ?_, ?_⟩ <;> simp only [if_true]
    · omega
    · omega
    · simp; omega
    · rw [Nat.add_mod_left, Nat.mod_eq_of_lt (by omega), hv]

theorem bears_nearest (s : Bool) (T r : Nat) (hr : r < 9218868437227405312) (hv : val r = T * TT) : Bears (double.nearest s T 0) s T := by
  have e0 : T * 2 ^ ((0 : Int) + 1074).toNat = val r * 2 ^ (-((0 : Int) + 1074)).toNat := by
    rw [show ((0 : Int) + 1074).toNat = 0 + EE from rfl, TT_add, Nat.pow_zero, Nat.one_mul, hv, show (-((0 : Int) + 1074)).toNat = 0 from rfl, Nat.pow_zero, Nat.mul_one]
  rw [nearest_exact s r T 0 hr e0]
  exact bears_word s T r hr hv

/-- The word that is cut towards nought, as a word. -/
theorem bears_trunc {x : Nat} (h : x % 9223372036854775808 < 9218868437227405312) : Bears (double.write ((double.read x).integral .zero)) (x / 9223372036854775808 % 2 == 1) (floorOf x) := by
  obtain ⟨m, p, e, hp, hv⟩ := read_finite h
  rw [e]
  simp only [Datum.integral, Format.write, cut_zero]
  rw [cut_floor hv hp]
  show Bears (double.nearest _ (floorOf x) 0) _ _
  by_cases h1 : 1075 ≤ x % 9223372036854775808 / 4503599627370496
  · refine bears_nearest _ _ (x % 9223372036854775808) h ?_
    unfold floorOf val
    rw [if_neg (by omega), show x % 9223372036854775808 / 4503599627370496 - 1 = (x % 9223372036854775808 / 4503599627370496 - 1075) + EE from by rw [EE_eq]; omega, TT_add, ← Nat.mul_assoc, Nat.mul_div_cancel _ (TT_pos)]
  · have hb : floorOf x ≤ 9007199254740992 := by
      unfold floorOf
      rw [Nat.div_le_iff_le_mul_add_pred (TT_pos)]
      have h2 := val_lt (a := x % 9223372036854775808) (b := 1075 * 4503599627370496 + 4503599627370496) (by omega)
      rw [val_mk 4503599627370496 1075 (by omega) (by omega)] at h2
      rw [TT_two, Nat.mul_comm] at h2
      omega
    obtain ⟨r, hr, hv⟩ := holds_small _ hb
    exact bears_nearest _ _ r hr hv

theorem bears_sv {b : Nat} {s : Bool} {T : Nat} (h : Bears b s T) : sv b = (if s then -(T : Int) else T) * ((TT : Nat) : Int) := by
  unfold sv
  rw [h.sign, h.num]
  cases s
  · simp only [Bool.false_eq_true, if_false, Int.natCast_mul]
  · simp only [if_true, Int.natCast_mul, Int.neg_mul]

theorem bears_nan {b : Nat} {s : Bool} {T : Nat} (h : Bears b s T) : isNan b = false := by
  have := h.fin
  simp [isNan]; omega

theorem bears_least : Bears 14109777632551763968 true 4611686018427387904 := ⟨by decide, by decide, by decide, by decide +kernel⟩
theorem bears_most : Bears 4886405595696988160 false 4611686018427387904 := ⟨by decide, by decide, by decide, by decide +kernel⟩

theorem bears_cmp {a b : Nat} {s t : Bool} {T U : Nat} (h : Bears a s T) (h' : Bears b t U) : double.order a b = some (compare (if s then -(T : Int) else T) (if t then -(U : Int) else U)) := by
  rw [order_sv (bears_nan h) (bears_nan h'), bears_sv h, bears_sv h', compare_scale _ _ _ (TT_pos)]

theorem bears_toInt {b : Nat} {s : Bool} {T : Nat} (h : Bears b s T) : (double.read b).toInt .zero = some (if s then -(T : Int) else T) := by
  obtain ⟨m, p, e, hp, hv⟩ := read_finite h.fin
  rw [e, h.sign]
  simp only [Datum.toInt, Datum.integral, cut_zero]
  rw [cut_floor hv hp, h.num, Nat.mul_div_cancel _ (TT_pos)]
  simp only [signed, Nat.shiftLeft_zero]
end Go.Proofs.Ytljpecbejaiphaa
