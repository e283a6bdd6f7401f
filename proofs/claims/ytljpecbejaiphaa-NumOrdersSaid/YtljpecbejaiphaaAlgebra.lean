/- The law NumAlgebra: what sums, products, differences and opposites of floats come to, and the walk. -/
import Derived.Test.YtljpecbejaiphaaFloats
import Derived.Test.YtljpecbejaiphaaExact
namespace Go.Proofs.Ytljpecbejaiphaa
open Go.RowKit Ieee

theorem f64 : FloatKind.f64.format = double := rfl

theorem sum_comm (d e : Datum) : d.sum e = e.sum d := by
  cases d <;> cases e <;> simp only [Datum.sum]
  · rename_i s m i t n j
    rw [Int.min_comm, Int.add_comm, Bool.and_comm]
  · rename_i s t
    by_cases h : s = t
    · subst h; rfl
    · rw [if_neg h, if_neg (fun e => h e.symm)]

theorem product_comm (d e : Datum) : d.product e = e.product d := by
  cases d <;> cases e <;> simp only [Datum.product]
  · rename_i s m i t n j
    rw [Bool.xor_comm, Nat.mul_comm, Int.add_comm]
  all_goals rw [Bool.xor_comm]

theorem opr_add_comm (x y : Nat) : opr .add x y = opr .add y x := by
  simp only [opr, floatBits, f64, Format.add, sum_comm]
theorem opr_mul_comm (x y : Nat) : opr .mul x y = opr .mul y x := by
  simp only [opr, floatBits, f64, Format.mul, product_comm]

theorem read_turned (y : Nat) (hy : y < 18446744073709551616) : double.read (turned y) = (double.read y).opposite := by
  have h2 : (1 - y / 9223372036854775808) % 2 = 1 - y / 9223372036854775808 % 2 := by omega
  have h3 : ((1 - y / 9223372036854775808 % 2) == 1) = !(y / 9223372036854775808 % 2 == 1) := by
    have : y / 9223372036854775808 % 2 = 0 ∨ y / 9223372036854775808 % 2 = 1 := by omega
    rcases this with e | e <;> rw [e] <;> rfl
  rw [rd, rd, turned_mod y hy, turned_div y hy, h2, h3]
  repeat' split
  all_goals rfl

theorem opr_sub (x y : Nat) (hy : y < 18446744073709551616) : opr .sub x y = opr .add x (canon (turned y)) := by
  simp only [opr, floatBits, f64, Format.add, Format.sub]
  cases h : isNan y
  · rw [canon_of (by rw [isNan_turned y hy, h]), read_turned y hy]
  · rw [canon_nan (by rw [isNan_turned y hy, h])]
    obtain ⟨s, t, e⟩ := read_nan h
    obtain ⟨s', t', e'⟩ := read_nan nan_nan
    rw [e, e']
    cases double.read x <;> rfl

theorem canon_lt (x : Nat) (hx : x < 18446744073709551616) : canon x < 18446744073709551616 := by
  unfold canon NAN; split <;> omega

theorem neg_neg (x : Nat) (hx : x < 18446744073709551616) : canon (turned (canon (turned x))) = canon x := by
  cases h : isNan x
  · rw [canon_of (x := turned x) (by rw [isNan_turned x hx, h]), turned_turned x hx]
  · rw [canon_nan (x := turned x) (by rw [isNan_turned x hx, h]), canon_nan h]
    decide +kernel

theorem ofInt_one : floatOfInt .f64 (wr 1) = 4607182418800017408 := by decide +kernel
theorem ofInt_zero : floatOfInt .f64 (wr 0) = 0 := by decide +kernel

theorem read_one : double.read 4607182418800017408 = .number false 4503599627370496 (-52) := by decide +kernel
theorem one_fin (x : Nat) (hx : x < 18446744073709551616) (h1 : x % 9223372036854775808 < 9218868437227405312) : ((double.read x).product (.number false 4503599627370496 (-52))).map double.write = some x := by
      obtain ⟨m, p, e, _, _⟩ := read_finite h1
      have h2 := nearest_read hx h1 e 52
      have e2 : (p - ((52 : Nat) : Int)) = p + -52 := by omega
      have e3 : (2 : Nat) ^ 52 = 4503599627370496 := by decide
      rw [e2, e3] at h2
      rw [e]
      simp only [Datum.product, Bool.xor_false, Option.map_some, Option.getD_some, Format.write]
      rw [h2]
theorem one_inf (x : Nat) (hx : x < 18446744073709551616) (h : isNan x = false) (h1 : x % 9223372036854775808 = 9218868437227405312) : ((double.read x).product (.number false 4503599627370496 (-52))).map double.write = some x := by
      have := write_read hx h
      rw [read_inf (by omega)] at this
      rw [read_inf (by omega)]
      have e4 : (Datum.infinity (x / 9223372036854775808 % 2 == 1)).product (.number false 4503599627370496 (-52)) = some (.infinity (x / 9223372036854775808 % 2 == 1)) := by
        simp [Datum.product]
      rw [e4, Option.map_some, this]

theorem opr_nan {op : BinOp} {x y : Nat} (h : isNan x = true ∨ isNan y = true) : opr op x y = NAN := by
  unfold opr
  have h1 : floatBits op .f64 x y = none := by
    rcases h with h | h <;> obtain ⟨s, t, e⟩ := read_nan h
    · cases op <;> simp only [floatBits, f64, Format.add, Format.sub, Format.mul, Format.div, e] <;> rfl
    · cases op <;> simp only [floatBits, f64, Format.add, Format.sub, Format.mul, Format.div, e] <;> cases double.read x <;> rfl
  rw [h1]; rfl


theorem opr_one (x : Nat) (hx : x < 18446744073709551616) : opr .mul x 4607182418800017408 = canon x := by
  cases h : isNan x
  · have h' : x % 9223372036854775808 ≤ 9218868437227405312 := by simpa [isNan] using h
    have h2 : double.mul x 4607182418800017408 = some x := by
      unfold Format.mul
      rw [read_one]
      by_cases h1 : x % 9223372036854775808 < 9218868437227405312
      · exact one_fin x hx h1
      · exact one_inf x hx h (by omega)
    have h3 : opr .mul x 4607182418800017408 = (double.mul x 4607182418800017408).getD NAN := rfl
    rw [canon_of h, h3, h2]; rfl
  · rw [canon_nan h, opr_nan (.inl h)]

set_option maxHeartbeats 400000 in
theorem algebra_walk (x y : Nat) (hx : x < 18446744073709551616) (hy : y < 18446744073709551616) (w : World) : Calls Try.prog 6 #[.int .u64 x, .int .u64 y] w fun e w' => e = .returned (.bool true) ∧ ∃ k, w' = w.drewN k := by
  have H1 := Lib.hid (opr_add_comm y x)
  have H2 := Lib.hid (opr_mul_comm y x)
  have H3 := Lib.hid (opr_sub x y hy)
  have H4 := Lib.hid (neg_neg x hx)
  have H5 := Lib.hid (opr_one x hx)
  have hy' := turned_lt y hy
  have hx' := canon_lt _ (turned_lt x hx)
  have e1 : Hid (Op.negFloat .f64 x = turned x) := negFloat_eq x hx
  have e2 : Hid (Op.negFloat .f64 y = turned y) := negFloat_eq y hy
  have e3 : Hid (Op.negFloat .f64 (canon (turned x)) = turned (canon (turned x))) := negFloat_eq _ hx'
  by_cases hor : isNan x = true ∨ isNan y = true
  · have hord : double.order x y = none := hor.elim order_nan_l order_nan_r
    have E1 := Lib.hid (opr_nan (op := .add) hor)
    have E2 := Lib.hid (opr_nan (op := .mul) hor)
    have E3 : Hid (opr .quo x y = NAN) := opr_nan hor
    have E4 := Lib.hid hord
    clear hord
    have hb : (isNan x = true ∧ isNan y = true) ∨ (isNan x = true ∧ isNan y = false) ∨ (isNan x = false ∧ isNan y = true) := by
      revert hor; cases isNan x <;> cases isNan y <;> simp
    clear hor
    rcases hb with ⟨h1, h2⟩ | ⟨h1, h2⟩ | ⟨h1, h2⟩
    all_goals
      go_enter Try.func6, Try.ntmps6
      go_wp2_with (first | (go_at_call 28; refine (over_any _ _ _).mono ?_; rintro e w' ⟨rfl, k, rfl⟩; rw [E3.out]) | (go_at_call 29; refine (less_any _ _ _).mono ?_; rintro e w' ⟨rfl, rfl⟩; rw [E4.out]) | (go_at_call 30; refine (same_any _ _ _).mono ?_; rintro e w' ⟨rfl, rfl⟩; rw [E4.out]) | (go_at_call 12; refine (counts_any _).mono ?_; rintro e w' ⟨rfl, rfl⟩) | (go_at_call 21; refine (plus_any _ _ _).mono ?_; rintro e w' ⟨rfl, k, rfl⟩; (try rw [H1.out]); (try rw [E1.out])) | (go_at_call 22; refine (times_any _ _ _).mono ?_; rintro e w' ⟨rfl, k, rfl⟩; (try rw [H2.out]); (try rw [H5.out]); (try rw [E2.out])) | (go_at_call 23; refine (minus_any _ _ _).mono ?_; rintro e w' ⟨rfl, k, rfl⟩; rw [H3.out]) | (go_at_call 24; refine (neg_any _ _).mono ?_; rintro e w' ⟨rfl, rfl⟩; first | rw [e1.out] | rw [e2.out] | rw [e3.out, H4.out]) | (go_at_call 26; refine (ofInt_any _ _).mono ?_; rintro e w' ⟨rfl, rfl⟩; rw [ofInt_one]) | (go_at_call 25; refine (canon_any _ hx _).mono ?_; rintro e w' ⟨rfl, rfl⟩) | (go_at_call 27; refine (isNan_any _ (by assumption) _).mono ?_; rintro e w' ⟨rfl, rfl⟩))
      go_ret
      exact ⟨rfl, _, rfl⟩
  · have h1 : isNan x = false := by simpa using fun h => hor (.inl h)
    have h2 : isNan y = false := by simpa using fun h => hor (.inr h)
    clear hor
    go_enter Try.func6, Try.ntmps6
    go_wp2_with (first | (go_at_call 12; refine (counts_any _).mono ?_; rintro e w' ⟨rfl, rfl⟩) | (go_at_call 21; refine (plus_any _ _ _).mono ?_; rintro e w' ⟨rfl, k, rfl⟩; (try rw [H1.out])) | (go_at_call 22; refine (times_any _ _ _).mono ?_; rintro e w' ⟨rfl, k, rfl⟩; (try rw [H2.out]); (try rw [H5.out])) | (go_at_call 23; refine (minus_any _ _ _).mono ?_; rintro e w' ⟨rfl, k, rfl⟩; rw [H3.out]) | (go_at_call 24; refine (neg_any _ _).mono ?_; rintro e w' ⟨rfl, rfl⟩; first | rw [e1.out] | rw [e2.out] | rw [e3.out, H4.out]) | (go_at_call 26; refine (ofInt_any _ _).mono ?_; rintro e w' ⟨rfl, rfl⟩; rw [ofInt_one]) | (go_at_call 25; refine (canon_any _ hx _).mono ?_; rintro e w' ⟨rfl, rfl⟩) | (go_at_call 27; refine (isNan_any _ (by assumption) _).mono ?_; rintro e w' ⟨rfl, rfl⟩))
    go_ret
    exact ⟨rfl, _, rfl⟩
end Go.Proofs.Ytljpecbejaiphaa
