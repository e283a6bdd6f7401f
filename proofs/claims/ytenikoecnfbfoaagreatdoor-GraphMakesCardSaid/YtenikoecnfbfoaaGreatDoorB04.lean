/- Texts of the proof, in build order: Ieee. -/
import Derived.Laws.FloatArith
import Derived.Laws.BitsAllLaws
/- Plain facts on the words of IEEE's double format, with no program in sight: which are no numbers, what the sums, products, quotients and roots of words are, how words stand to each other. -/
namespace Go.Proofs.YtenikoecnfbfoaaGreatDoor
open Ieee
set_option linter.unusedSimpArgs false
set_option linter.unusedVariables false

abbrev NAN : Nat := 9221120237041090560

/-- The word is no number. -/
def isNan (x : Nat) : Bool := decide (9218868437227405312 < x % 9223372036854775808)

def canon (x : Nat) : Nat := if isNan x then NAN else x

theorem sw : double.signWeight = 9223372036854775808 := by decide +kernel
theorem bin : double.binade = 4503599627370496 := by decide +kernel
theorem inf : double.infRung = 9218868437227405312 := by decide +kernel
theorem lp : double.leastPlace = -1074 := by decide +kernel

theorem rd (x : Nat) : double.read x =
    if x % 9223372036854775808 < 4503599627370496 then .number (x / 9223372036854775808 % 2 == 1) (x % 9223372036854775808) (-1074)
    else if x % 9223372036854775808 < 9218868437227405312 then .number (x / 9223372036854775808 % 2 == 1) (4503599627370496 + x % 9223372036854775808 % 4503599627370496) (-1074 + (x % 9223372036854775808 / 4503599627370496 - 1 : Nat))
    else if x % 9223372036854775808 = 9218868437227405312 then .infinity (x / 9223372036854775808 % 2 == 1)
    else .nan (x / 9223372036854775808 % 2 == 1) (x % 9223372036854775808 - 9218868437227405312) := by
  unfold Format.read
  simp only [sw, bin, inf, lp]

theorem read_nan {x : Nat} (h : isNan x = true) : ∃ s t, double.read x = .nan s t := by
  have h' : 9218868437227405312 < x % 9223372036854775808 := by simpa [isNan] using h
  rw [rd, if_neg (by omega), if_neg (by omega), if_neg (by omega)]
  exact ⟨_, _, rfl⟩

theorem read_some {x : Nat} (h : isNan x = false) : (∃ s m p, double.read x = .number s m p) ∨ ∃ s, double.read x = .infinity s := by
  have h' : x % 9223372036854775808 ≤ 9218868437227405312 := by simpa [isNan] using h
  rw [rd]
  split
  · exact .inl ⟨_, _, _, rfl⟩
  split
  · exact .inl ⟨_, _, _, rfl⟩
  rw [if_pos (by omega)]
  exact .inr ⟨_, rfl⟩

theorem order_self (x : Nat) : (double.order x x != some .eq) = isNan x := by
  unfold Format.order
  cases h : isNan x
  · rcases read_some h with ⟨s, m, p, e⟩ | ⟨s, e⟩
    · rw [e]; simp [Datum.order, compare, compareOfLessAndEq]
    · rw [e]; simp [Datum.order]
  · obtain ⟨s, t, e⟩ := read_nan h
    rw [e]; rfl

theorem word_not_nan (neg : Bool) (r : Nat) (h : r ≤ 9218868437227405312) : isNan (double.word neg r) = false := by
  unfold Format.word isNan
  rw [sw]
  split <;> simp <;> omega

theorem nearest_not_nan (neg : Bool) (m : Nat) (p : Int) : isNan (double.nearest neg m p) = false := by
  unfold Format.nearest
  dsimp only
  split
  · exact word_not_nan _ _ (by omega)
  · refine word_not_nan _ _ ?_
    have := Nat.min_le_right ((max (p + m.log2 - double.fractionBits) double.leastPlace - double.leastPlace).toNat * double.binade +
      Toward.even.cut neg (m <<< (p - max (p + m.log2 - double.fractionBits) double.leastPlace).toNat)
        (max (p + m.log2 - double.fractionBits) double.leastPlace - p).toNat) double.infRung
    rw [inf] at *
    exact this

theorem write_not_nan (d : Datum) (h : d.isNaN = false) : isNan (double.write d) = false := by
  cases d with
  | number s m p => exact nearest_not_nan s m p
  | infinity s => exact word_not_nan _ _ (by rw [inf]; omega)
  | nan s t => cases h

theorem sum_not_nan {d e r : Datum} (h : d.sum e = some r) : r.isNaN = false := by
  cases d <;> cases e <;> simp [Datum.sum] at h
  · subst h; rfl
  · subst h; rfl
  · subst h; rfl
  · obtain ⟨_, rfl⟩ := h; rfl

theorem product_not_nan {d e r : Datum} (h : d.product e = some r) : r.isNaN = false := by
  cases d <;> cases e <;> simp [Datum.product] at h
  · subst h; rfl
  · obtain ⟨_, rfl⟩ := h; rfl
  · obtain ⟨_, rfl⟩ := h; rfl
  · subst h; rfl

theorem quotient_not_nan {k : Nat} {d e r : Datum} (h : d.quotient k e = some r) : r.isNaN = false := by
  cases d <;> cases e <;> simp only [Datum.quotient] at h
  case number.number s m i t n j =>
    by_cases hn : n = 0
    · by_cases hm : m = 0
      · simp [hn, hm] at h
      · simp only [if_pos hn, if_neg hm, Option.some.injEq] at h; subst h; rfl
    · simp only [if_neg hn, Option.some.injEq] at h; subst h; rfl
  all_goals first | (cases h; done) | (cases h; rfl)

theorem root_not_nan {k : Nat} {d r : Datum} (h : d.root k = some r) : r.isNaN = false := by
  cases d <;> simp only [Datum.root] at h
  case number s m i =>
    by_cases hm : m = 0
    · simp only [if_pos hm, Option.some.injEq] at h; subst h; rfl
    · cases s
      · simp only [if_neg hm, Bool.false_eq_true, if_false, Option.some.injEq] at h; subst h; rfl
      · simp [hm] at h
  case infinity s =>
    cases s
    · simp at h; subst h; rfl
    · simp at h
  cases h

theorem map_not_nan {d : Option Datum} {r : Nat} (h : d.map double.write = some r) (hd : ∀ e, d = some e → e.isNaN = false) : isNan r = false := by
  cases d with
  | none => cases h
  | some e => cases h; exact write_not_nan e (hd e rfl)

theorem bits_not_nan {op : BinOp} {x y r : Nat} (h : floatBits op .f64 x y = some r) : isNan r = false := by
  unfold floatBits at h
  split at h
  · exact map_not_nan h fun e he => sum_not_nan he
  · exact map_not_nan h fun e he => sum_not_nan he
  · exact map_not_nan h fun e he => product_not_nan he
  · exact map_not_nan h fun e he => quotient_not_nan he
  · cases h

theorem canon_of {x : Nat} (h : isNan x = false) : canon x = x := by simp [canon, h]
theorem canon_nan {x : Nat} (h : isNan x = true) : canon x = NAN := by simp [canon, h]
theorem nan_nan : isNan NAN = true := by decide +kernel

/-- The word with the other sign. -/
def turned (x : Nat) : Nat := if x < 9223372036854775808 then x + 9223372036854775808 else x - 9223372036854775808

theorem xor63 (x : Nat) (hx : x < 18446744073709551616) : x ^^^ 9223372036854775808 = turned x := by
  have h1 : (x ^^^ 2 ^ 63) % 2 ^ 63 = x % 2 ^ 63 := by rw [Nat.xor_mod_two_pow, Nat.mod_self, Nat.xor_zero]
  have h2 : (x ^^^ 2 ^ 63) / 2 ^ 63 = (x / 2 ^ 63) ^^^ 1 := by rw [Nat.xor_div_two_pow, Nat.div_self (by decide)]
  have h3 := Nat.div_add_mod (x ^^^ 2 ^ 63) (2 ^ 63)
  rw [h1, h2] at h3
  have h4 := Nat.div_add_mod x (2 ^ 63)
  have hq : x / 2 ^ 63 = 0 ∨ x / 2 ^ 63 = 1 := by omega
  unfold turned
  rw [show (9223372036854775808 : Nat) = 2 ^ 63 from by decide, ← h3]
  rcases hq with e | e
  · rw [e]; rw [if_pos (by omega), show (0 ^^^ 1 : Nat) = 1 from rfl]; omega
  · rw [e]; rw [if_neg (by omega), show (1 ^^^ 1 : Nat) = 0 from rfl]; omega

theorem negFloat_eq (x : Nat) (hx : x < 18446744073709551616) : Op.negFloat .f64 x = turned x := xor63 x hx

theorem turned_lt (x : Nat) (hx : x < 18446744073709551616) : turned x < 18446744073709551616 := by unfold turned; split <;> omega
theorem turned_turned (x : Nat) (hx : x < 18446744073709551616) : turned (turned x) = x := by unfold turned; split <;> split <;> omega
theorem turned_mod (x : Nat) (hx : x < 18446744073709551616) : turned x % 9223372036854775808 = x % 9223372036854775808 := by unfold turned; split <;> omega
theorem turned_div (x : Nat) (hx : x < 18446744073709551616) : turned x / 9223372036854775808 = 1 - x / 9223372036854775808 := by unfold turned; split <;> omega
theorem isNan_turned (x : Nat) (hx : x < 18446744073709551616) : isNan (turned x) = isNan x := by unfold isNan; rw [turned_mod x hx]

theorem and63 (x : Nat) (hx : x < 18446744073709551616) : bits .and .u64 (x : Int) 9223372036854775807 = ((x % 9223372036854775808 : Nat) : Int) := by
  rw [show (9223372036854775807 : Int) = ((9223372036854775807 : Nat) : Int) from rfl, u64_and_nat _ _ hx (by omega)]
  rw [show (9223372036854775807 : Nat) = 2 ^ 63 - 1 from by decide, Nat.and_two_pow_sub_one_eq_mod]

theorem bxor63 (x : Nat) (hx : x < 18446744073709551616) : bits .xor .u64 (x : Int) 9223372036854775808 = ((turned x : Nat) : Int) := by
  rw [show (9223372036854775808 : Int) = ((9223372036854775808 : Nat) : Int) from rfl, u64_xor_nat _ _ hx (by omega), xor63 x hx]
end Go.Proofs.YtenikoecnfbfoaaGreatDoor
