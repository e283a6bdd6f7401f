/- Texts of the proof, in build order: Ieee. -/
import Derived.Laws.FloatArith
import Derived.Laws.BitsAllLaws
set_option linter.unusedVariables false
set_option linter.unusedSimpArgs false
set_option linter.unusedSectionVars false
/- Plain facts on the words of IEEE's double format, with no program in sight: which are no numbers, what the sums, products, quotients and roots of words are, how words stand to each other. -/
namespace Go.Proofs.YtcpgbekcbaelpaaGreatDoor
open Ieee
set_option linter.unusedSimpArgs false
set_option linter.unusedVariables false

abbrev NAN : Nat := 9221120237041090560

def isNan (x : Nat) : Bool := decide (9218868437227405312 < x % 9223372036854775808)

def canon (x : Nat) : Nat := if isNan x then NAN else x

theorem sw : double.signWeight = 9223372036854775808 := by decide +kernel
theorem bin : double.binade = 4503599627370496 := by decide +kernel
theorem inf : double.infRung = 9218868437227405312 := by decide +kernel
theorem lp : double.leastPlace = -1074 := by decide +kernel

theorem rd (x : Nat) : double.read x =
    if x % 9223372036854775808 < 4503599627370496 then .number (x / 9223372036854775808 % 2 == 1) (x % 9223372036854775808) (-1074)
    else if x % 9223372036854775808 < 9218868437227405312 then .number (x / 9223372036854775808 % 2 == 1) (4503599627370496 + x % 9223372036854775808 % 4503599627370496) (-1074 + (x % 9223372036854775808 / 4503599627370496 - 1 : Nat))
    else if x % 9223372036854775808 = 9218868437227405312 then .infinity (x / 9223372036854775808 % 2 == 1)
    else .nan (x / 9223372036854775808 % 2 == 1) (x % 9223372036854775808 - 9218868437227405312) := by
  unfold Format.read
  simp only [sw, bin, inf, lp]

theorem read_nan {x : Nat} (h : isNan x = true) : ∃ s t, double.read x = .nan s t := by
  have h' : 9218868437227405312 < x % 9223372036854775808 := by simpa [isNan] using h
  rw [rd, if_neg (by omega), if_neg (by omega), if_neg (by omega)]
  exact ⟨_, _, rfl⟩

theorem read_some {x : Nat} (h : isNan x = false) : (∃ s m p, double.read x = .number s m p) ∨ ∃ s, double.read x = .infinity s := by
  have h' : x % 9223372036854775808 ≤ 9218868437227405312 := by simpa [isNan] using h
  rw [rd]
  split
  · exact .inl ⟨_, _, _, rfl⟩
  split
  · exact .inl ⟨_, _, _, rfl⟩
  rw [if_pos (by omega)]
  exact .inr ⟨_, rfl⟩

theorem order_self (x : Nat) : (double.order x x != some .eq) = isNan x := by
  unfold Format.order
  cases h : isNan x
  · rcases read_some h with ⟨s, m, p, e⟩ | ⟨s, e⟩
    · rw [e]; simp [Datum.order, compare, compareOfLessAndEq]
    · rw [e]; simp [Datum.order]
  · obtain ⟨s, t, e⟩ := read_nan h
    rw [e]; rfl

theorem canon_of {x : Nat} (h : isNan x = false) : canon x = x := by simp [canon, h]
theorem canon_nan {x : Nat} (h : isNan x = true) : canon x = NAN := by simp [canon, h]
def turned (x : Nat) : Nat := if x < 9223372036854775808 then x + 9223372036854775808 else x - 9223372036854775808

end Go.Proofs.YtcpgbekcbaelpaaGreatDoor
