/- Whole numbers below 2^53 as words of the double format: sums and products are whole, quotients bear the signs (no program). -/
import Derived.Test.YtlailomhgipppaaGreatDoorExact
import Derived.Laws.Cover2
namespace Go.Proofs.YtlailomhgipppaaGreatDoor
open Ieee
set_option linter.unusedSimpArgs false
set_option linter.unusedVariables false

def EX : Nat := 1074
theorem EX_eq : EX = 1074 := rfl
def UU : Nat := 2 ^ EX
theorem UU_pos : 0 < UU := Nat.two_pow_pos EX
theorem UU_pow {a b : Nat} (h : a + 1074 = b) : 2 ^ a * UU = 2 ^ b := by unfold UU; rw [← Nat.pow_add, EX_eq, h]
/-- The word of a whole number. -/
def Bears (x k : Nat) : Prop := x < 9218868437227405312 ∧ val x = k * UU
theorem Bears.uniq {x y k : Nat} (h : Bears x k) (h' : Bears y k) : x = y := by
  rcases Nat.lt_trichotomy x y with e | e | e
  · have := val_lt e; rw [h.2, h'.2] at this; omega
  · exact e
  · have := val_lt e; rw [h.2, h'.2] at this; omega
theorem bears_some {k : Nat} (hk : k < 9007199254740992) : ∃ x, Bears x k := by
  by_cases h0 : k = 0
  · exact ⟨0, by omega, by rw [h0, val_zero, Nat.zero_mul]⟩
  · have hl1 : 2 ^ k.log2 ≤ k := Nat.log2_self_le h0
    have hl2 : k < 2 ^ (k.log2 + 1) := Nat.lt_log2_self
    have hl : k.log2 ≤ 52 := by
      rcases Nat.lt_or_ge 52 k.log2 with h | h
      · have : 2 ^ 53 ≤ 2 ^ k.log2 := Nat.pow_le_pow_right (by omega) h
        have e : (2 : Nat) ^ 53 = 9007199254740992 := by decide
        omega
      · exact h
    obtain ⟨s, hs⟩ : ∃ s, s + k.log2 = 52 := ⟨52 - k.log2, by omega⟩
    have e1 : 2 ^ s * 2 ^ k.log2 = 4503599627370496 := by rw [← Nat.pow_add, hs]
    have e2 : 2 ^ s * 2 ^ (k.log2 + 1) = 9007199254740992 := by rw [← Nat.pow_add, show s + (k.log2 + 1) = 53 by omega]
    have b1 : 4503599627370496 ≤ 2 ^ s * k := by rw [← e1]; exact Nat.mul_le_mul_left _ hl1
    have b2 : 2 ^ s * k < 9007199254740992 := by rw [← e2]; exact Nat.mul_lt_mul_of_pos_left hl2 (Nat.two_pow_pos s)
    obtain ⟨t, ht⟩ : ∃ t, t + 4503599627370496 = 2 ^ s * k := ⟨2 ^ s * k - 4503599627370496, by omega⟩
    refine ⟨(1075 - s) * 4503599627370496 + t, by omega, ?_⟩
    have hd : ((1075 - s) * 4503599627370496 + t) / 4503599627370496 = 1075 - s := by omega
    have hm : ((1075 - s) * 4503599627370496 + t) % 4503599627370496 = t := by omega
    unfold val
    rw [if_neg (by omega), hd, hm, show 4503599627370496 + t = 2 ^ s * k by omega, show 1075 - s - 1 = 1074 - s by omega]
    rw [Nat.mul_comm (2 ^ s) k, Nat.mul_assoc, ← Nat.pow_add]
    unfold UU
    rw [EX_eq, show s + (1074 - s) = 1074 by omega]
theorem Bears.read {x k : Nat} (h : Bears x k) : ∃ m p, double.read x = .number false m p ∧ -1074 ≤ p ∧ m * 2 ^ (p + 1074).toNat = k * UU := by
  have hx : x % 9223372036854775808 = x := Nat.mod_eq_of_lt (by have := h.1; omega)
  obtain ⟨m, p, e, hp, hv⟩ := read_finite (x := x) (by rw [hx]; exact h.1)
  rw [hx, h.2] at hv
  refine ⟨m, p, ?_, hp, hv⟩
  rw [e]
  have : x / 9223372036854775808 = 0 := Nat.div_eq_of_lt (by have := h.1; omega)
  rw [this]
  rfl
theorem Bears.write {x k m : Nat} {p : Int} (h : Bears x k) (hp : -1074 ≤ p) (hv : m * 2 ^ (p + 1074).toNat = k * UU) (neg : Bool) : double.nearest neg m p = double.word neg x := by
  refine nearest_exact neg x m p h.1 ?_
  rw [hv, h.2, show (-(p + 1074)).toNat = 0 by omega, Nat.pow_zero, Nat.mul_one]
theorem word_pos (x : Nat) : double.word false x = x := by unfold Format.word; rw [if_neg (by simp)]
theorem Bears.of {k x : Nat} (h : Bears x k) : floatOfInt .f64 (k : Int) = x := by
  show double.nearest (decide ((k : Int) < 0)) (k : Int).natAbs 0 = x
  have e : decide ((k : Int) < 0) = false := by simp
  have e2 : k * 2 ^ ((0 : Int) + 1074).toNat = k * UU := by
    have : ((0 : Int) + 1074).toNat = EX := rfl
    rw [this]
    rfl
  have e3 : (k : Int).natAbs = k := by omega
  rw [e, e3, h.write (by omega) e2 false, word_pos]
theorem Bears.sum {x y z a b : Nat} (hx : Bears x a) (hy : Bears y b) (hz : Bears z (a + b)) : double.add x y = some z := by
  obtain ⟨m, p, e1, hp, hv⟩ := hx.read
  obtain ⟨n, q, e2, hq, hw⟩ := hy.read
  unfold Format.add
  rw [e1, e2]
  have hbase : -1074 ≤ min p q := by omega
  have hs : ∀ (m : Nat) (i : Int), min p q ≤ i → signed false m (i - min p q).toNat * ((2 ^ (min p q + 1074).toNat : Nat) : Int) = ((m * 2 ^ (i + 1074).toNat : Nat) : Int) := fun m i hi => by
    unfold signed
    rw [if_neg (by simp), Nat.shiftLeft_eq, ← Int.natCast_mul, Nat.mul_assoc, ← Nat.pow_add]
    have e : (i - min p q).toNat + (min p q + 1074).toNat = (i + 1074).toNat := by omega
    rw [e]
  have hnn : ∀ (m : Nat) (i : Nat), 0 ≤ signed false m i := fun m i => by unfold signed; rw [if_neg (by simp)]; exact Int.natCast_nonneg _
  have h1 := hs m p (by omega)
  have h2 := hs n q (by omega)
  show some (double.write (.number (if signed false m (p - min p q).toNat + signed false n (q - min p q).toNat = 0 then false && false else decide (signed false m (p - min p q).toNat + signed false n (q - min p q).toNat < 0)) (signed false m (p - min p q).toNat + signed false n (q - min p q).toNat).natAbs (min p q))) = some z
  have n1 := hnn m (p - min p q).toNat
  have n2 := hnn n (q - min p q).toNat
  generalize signed false m (p - min p q).toNat = A at *
  generalize signed false n (q - min p q).toNat = B at *
  have hneg : (if A + B = 0 then false && false else decide (A + B < 0)) = false := by
    split
    · rfl
    · exact decide_eq_false (by omega)
  rw [hneg]
  congr 1
  show double.nearest false (A + B).natAbs (min p q) = z
  rw [hz.write hbase (m := (A + B).natAbs) ?_ false, word_pos]
  have hab : (((A + B).natAbs : Nat) : Int) = A + B := by omega
  rw [hv] at h1
  rw [hw] at h2
  have : (((A + B).natAbs * 2 ^ (min p q + 1074).toNat : Nat) : Int) = (((a + b) * UU : Nat) : Int) := by
    generalize 2 ^ (min p q + 1074).toNat = P at *
    rw [Int.natCast_mul, hab, Int.add_mul, h1, h2, Nat.add_mul, Int.natCast_add]
  exact Int.ofNat_inj.1 this
theorem Bears.prod {x y z a b : Nat} (hx : Bears x a) (hy : Bears y b) (hz : Bears z (a * b)) : double.mul x y = some z := by
  obtain ⟨m, p, e1, hp, hv⟩ := hx.read
  obtain ⟨n, q, e2, hq, hw⟩ := hy.read
  unfold Format.mul
  rw [e1, e2]
  show some (double.nearest (false ^^ false) (m * n) (p + q)) = some z
  congr 1
  refine (nearest_exact _ z (m * n) (p + q) hz.1 ?_).trans (word_pos z)
  rw [hz.2]
  have e : (p + q + 1074).toNat + 1074 = (p + 1074).toNat + (q + 1074).toNat + (-(p + q + 1074)).toNat := by omega
  have key : m * n * 2 ^ (p + q + 1074).toNat * UU = a * b * UU * 2 ^ (-(p + q + 1074)).toNat * UU := by
    rw [Nat.mul_assoc (m * n), UU_pow e, Nat.pow_add, Nat.pow_add]
    generalize 2 ^ (p + 1074).toNat = P at *
    generalize 2 ^ (q + 1074).toNat = Q at *
    generalize 2 ^ (-(p + q + 1074)).toNat = N
    have : m * n * (P * Q * N) = (m * P) * (n * Q) * N := by simp only [Nat.mul_assoc, Nat.mul_comm, Nat.mul_left_comm]
    rw [this, hv, hw]
    generalize UU = U
    simp only [Nat.mul_assoc, Nat.mul_comm, Nat.mul_left_comm]
  exact Nat.eq_of_mul_eq_mul_right UU_pos key
theorem nearest_sign (M : Nat) (P : Int) : ∃ R, R ≤ 9218868437227405312 ∧ ∀ neg, double.nearest neg M P = double.word neg R := by
  by_cases h : M = 0
  · exact ⟨0, by omega, fun neg => by unfold Format.nearest; rw [if_pos h]⟩
  · refine ⟨min ((max (P + M.log2 - double.fractionBits) double.leastPlace - double.leastPlace).toNat * double.binade + Toward.even.cut false (M <<< (P - max (P + M.log2 - double.fractionBits) double.leastPlace).toNat) (max (P + M.log2 - double.fractionBits) double.leastPlace - P).toNat) double.infRung, ?_, fun neg => ?_⟩
    · rw [inf]
      exact Nat.min_le_right _ _
    · unfold Format.nearest
      rw [if_neg h]
      cases neg <;> rfl
theorem read_sign {x : Nat} (hx : x < 9218868437227405312) : ∃ m p, double.read x = .number false m p ∧ double.read (9223372036854775808 + x) = .number true m p := by
  have e1 : x % 9223372036854775808 = x := Nat.mod_eq_of_lt (by omega)
  have e2 : (9223372036854775808 + x) % 9223372036854775808 = x := by omega
  have e3 : x / 9223372036854775808 = 0 := Nat.div_eq_of_lt (by omega)
  have e4 : (9223372036854775808 + x) / 9223372036854775808 = 1 := by omega
  rw [rd, rd, e1, e2, e3, e4]
  by_cases h : x < 4503599627370496
  · rw [if_pos h, if_pos h]; exact ⟨_, _, rfl, rfl⟩
  · rw [if_neg h, if_neg h, if_pos hx, if_pos hx]; exact ⟨_, _, rfl, rfl⟩
theorem quot_sign {x y a b : Nat} (hx : Bears x a) (hy : Bears y b) (hb : b ≠ 0) : ∃ R, R ≤ 9218868437227405312 ∧ double.div x y = some R ∧ double.div (9223372036854775808 + x) y = some (9223372036854775808 + R) := by
  obtain ⟨m, p, e1, e2⟩ := read_sign hx.1
  obtain ⟨n, q, e3, hq, hw⟩ := hy.read
  have hn : n ≠ 0 := by
    rintro rfl
    rw [Nat.zero_mul] at hw
    have := Nat.mul_eq_zero.1 hw.symm
    have := UU_pos
    omega
  unfold Format.div
  rw [e1, e2, e3]
  obtain ⟨R, hR, hs⟩ := nearest_sign (2 * (m <<< (double.fractionBits + 2 + n.log2 - m.log2) / n) + (m <<< (double.fractionBits + 2 + n.log2 - m.log2) % n != 0).toNat) (p - q - (double.fractionBits + 2 + n.log2 - m.log2 : Nat) - 1)
  refine ⟨R, hR, ?_, ?_⟩
  · show ((if n = 0 then if m = 0 then none else some (Datum.infinity (false ^^ false)) else some (Datum.number (false ^^ false) _ _)) : Option Datum).map double.write = _
    rw [if_neg hn]
    show some (double.nearest false _ _) = _
    rw [hs, word_pos]
  · show ((if n = 0 then if m = 0 then none else some (Datum.infinity (true ^^ false)) else some (Datum.number (true ^^ false) _ _)) : Option Datum).map double.write = _
    rw [if_neg hn]
    show some (double.nearest true _ _) = _
    rw [hs]
    unfold Format.word
    rw [sw]
    rfl
/-- The word of a whole number; the quotient of digits by a power of ten. -/
def fw (m : Nat) : Nat := Go.floatOfInt .f64 (m : Int)
theorem fw_bears {m : Nat} (h : m < 9007199254740992) : Bears (fw m) m := by
  obtain ⟨x, hx⟩ := bears_some h
  unfold fw
  rw [hx.of]
  exact hx
def quotR (m k : Nat) : Nat := (double.div (fw m) (fw (10 ^ k))).getD 0
theorem pow_small {k : Nat} (h : k ≤ 15) : 10 ^ k < 9007199254740992 := by
  have h1 : 10 ^ k ≤ 10 ^ 15 := Nat.pow_le_pow_right (by omega) h
  have h2 : (10 : Nat) ^ 15 = 1000000000000000 := by decide
  omega
theorem quotR_facts {m k : Nat} (hm : m < 9007199254740992) (hk : k ≤ 15) : quotR m k ≤ 9218868437227405312 ∧ double.div (fw m) (fw (10 ^ k)) = some (quotR m k) ∧ double.div (9223372036854775808 + fw m) (fw (10 ^ k)) = some (9223372036854775808 + quotR m k) := by
  obtain ⟨R, h1, h2, h3⟩ := quot_sign (fw_bears hm) (fw_bears (pow_small hk)) (Nat.pos_iff_ne_zero.1 (Nat.pow_pos (by omega)))
  have : quotR m k = R := by unfold quotR; rw [h2]; rfl
  rw [this]
  exact ⟨h1, h2, h3⟩
theorem fw_zero : fw 0 = 0 := by decide +kernel
theorem quotR_zero {k : Nat} (hk : k ≤ 15) : quotR 0 k = 0 := by
  have := (quotR_facts (m := 0) (by omega) hk).2.1
  rw [fw_zero] at this
  obtain ⟨n, q, e3, hq, hw⟩ := (fw_bears (pow_small hk)).read
  have hn : n ≠ 0 := by
    rintro rfl
    rw [Nat.zero_mul] at hw
    have h1 := Nat.mul_eq_zero.1 hw.symm
    have h2 := UU_pos
    have h3 : 0 < 10 ^ k := Nat.pow_pos (by omega)
    omega
  unfold Format.div at this
  have e0 : double.read 0 = .number false 0 (-1074) := by decide +kernel
  rw [e0, e3] at this
  have h4 : ((if n = 0 then if (0 : Nat) = 0 then none else some (Datum.infinity (false ^^ false)) else some (Datum.number (false ^^ false) (2 * (0 <<< (double.fractionBits + 2 + n.log2 - (0 : Nat).log2) / n) + (0 <<< (double.fractionBits + 2 + n.log2 - (0 : Nat).log2) % n != 0).toNat) (-1074 - q - (double.fractionBits + 2 + n.log2 - (0 : Nat).log2 : Nat) - 1))) : Option Datum).map double.write = some (quotR 0 k) := this
  rw [if_neg hn] at h4
  have h5 : (2 * (0 <<< (double.fractionBits + 2 + n.log2 - (0 : Nat).log2) / n) + (0 <<< (double.fractionBits + 2 + n.log2 - (0 : Nat).log2) % n != 0).toNat) = 0 := by
    rw [Nat.zero_shiftLeft, Nat.zero_div, Nat.zero_mod]; rfl
  rw [h5] at h4
  have h6 : double.nearest (false ^^ false) 0 (-1074 - q - (double.fractionBits + 2 + n.log2 - (0 : Nat).log2 : Nat) - 1) = quotR 0 k := Option.some.inj h4
  rw [← h6]
  unfold Format.nearest
  rw [if_pos rfl, Bool.xor_false, word_pos]
end Go.Proofs.YtlailomhgipppaaGreatDoor
