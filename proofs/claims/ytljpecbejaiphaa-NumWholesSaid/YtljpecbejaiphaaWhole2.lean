/- What the functions Whole come to. -/
import Derived.Test.YtljpecbejaiphaaWholes
namespace Go.Proofs.Ytljpecbejaiphaa
open Go.RowKit Ieee

abbrev askTrunc : Question := .extern "math.Floor,Ceil,Trunc,RoundToEven.signallingNaN kept" 2

/-- A word cut towards nought, and the world behind it. -/
def truncBits (x : Nat) (w : World) : Nat := match double.read x with
  | .nan s t => if double.quiet t = t then x else if picked askTrunc w == 1 then x else double.write (.nan s (double.quiet t))
  | d => double.write (d.integral .zero)
def truncWorld (x : Nat) (w : World) : World := match double.read x with
  | .nan _ t => if double.quiet t = t then w else w.drew
  | _ => w

theorem truncWorld_drewN (x : Nat) (w : World) : ∃ k, truncWorld x w = w.drewN k := by
  unfold truncWorld
  split
  · split
    · exact ⟨0, rfl⟩
    · exact ⟨1, rfl⟩
  · exact ⟨0, rfl⟩

@[go_sem] theorem run_trunc (x : Nat) (w : World) : (callFunc 46 #[.float .f64 x]).run Try.prog w = .ok (.value (.float .f64 (truncBits x w))) (truncWorld x w) := by
  rw [run_callFunc_extern (e := Extern.MathFloor.toIntegral "math.archTrunc" .zero) Try.func46 (by kernel_rfl) rfl rfl (by kernel_rfl)]
  have e : Extern.MathFloor.toIntegral "math.archTrunc" .zero #[.float .f64 x] = (match double.read x with
    | .nan s t => if double.quiet t = t then Pure.pure (Value.float .f64 x) else
        (choose askTrunc) >>= fun kept => Pure.pure (Value.float .f64 (if kept == 1 then x else double.write (.nan s (double.quiet t))))
    | d => Pure.pure (Value.float .f64 (double.write (d.integral .zero))) : Sem Value) := rfl
  rw [e]
  unfold truncBits truncWorld
  cases h : double.read x with
  | number s m p => simp [Result.andThen]
  | infinity s => simp [Result.andThen]
  | nan s t =>
    by_cases hq : double.quiet t = t
    · simp [hq, Result.andThen]
    · simp [hq, picked, Question.forced, Result.andThen]

theorem quiet_nan (s : Bool) (t : Nat) (ht : t < 4503599627370496) : isNan (double.write (.nan s (double.quiet t))) = true := by
  have h1 : double.quiet t = t ||| 2251799813685248 := rfl
  have h2 : t ||| 2251799813685248 < 2 ^ 52 := Nat.or_lt_two_pow (by omega) (by omega)
  have h3 : 2251799813685248 ≤ t ||| 2251799813685248 := Nat.right_le_or
  simp only [Format.write, Format.word, sw, inf, bin, h1]
  rw [Nat.mod_eq_of_lt (by omega)]
  unfold isNan
  rw [decide_eq_true_eq]
  cases s
  · simp only [Bool.false_eq_true, if_false]; omega
  · simp only [if_true]; omega

theorem trunc_nan {x : Nat} (h : isNan x = true) (w : World) : isNan (truncBits x w) = true := by
  have h' : 9218868437227405312 < x % 9223372036854775808 := by simpa [isNan] using h
  unfold truncBits
  rw [rd, if_neg (by omega), if_neg (by omega), if_neg (by omega)]
  simp only
  split
  · exact h
  · split
    · exact h
    · exact quiet_nan _ _ (by omega)

theorem trunc_fin {x : Nat} (h : x % 9223372036854775808 < 9218868437227405312) (w : World) : Bears (truncBits x w) (x / 9223372036854775808 % 2 == 1) (floorOf x) := by
  have hb := bears_trunc h
  obtain ⟨m, p, e, _, _⟩ := read_finite h
  unfold truncBits
  rw [e] at hb ⊢
  exact hb
theorem trunc_fin_world {x : Nat} (h : x % 9223372036854775808 < 9218868437227405312) (w : World) : truncWorld x w = w := by
  obtain ⟨m, p, e, _, _⟩ := read_finite h
  unfold truncWorld
  rw [e]

theorem trunc_inf {x : Nat} (h : x % 9223372036854775808 = 9218868437227405312) (w : World) : truncBits x w = if x / 9223372036854775808 % 2 == 1 then 18442240474082181120 else 9218868437227405312 := by
  unfold truncBits
  rw [read_inf h]
  simp only [Datum.integral]
  cases (x / 9223372036854775808 % 2 == 1)
  · exact write_inf
  · exact write_ninf

theorem signed_whole {x : Nat} (hx : x < 18446744073709551616) : (if (x / 9223372036854775808 % 2 == 1) = true then -(floorOf x : Int) else (floorOf x : Int)) = whole x := by
  unfold whole
  by_cases h : x < 9223372036854775808
  · rw [if_pos h, sign_pos h, if_neg (by simp)]
  · rw [if_neg h, sign_neg hx h, if_pos rfl]

theorem geq_fin {x : Nat} (hx : x < 18446744073709551616) (h : x % 9223372036854775808 < 9218868437227405312) (w : World) :
    (double.order (truncBits x w) 14109777632551763968 == some .gt || double.order (truncBits x w) 14109777632551763968 == some .eq) = decide (-4611686018427387904 ≤ whole x) := by
  have e := bears_cmp (trunc_fin h w) bears_least
  rw [signed_whole hx] at e
  rw [e]
  simp only [if_true]
  rcases Int.lt_trichotomy (whole x) (-((4611686018427387904 : Nat) : Int)) with h | h | h
  · rw [cmp_lt h, decide_eq_false (by omega)]; rfl
  · rw [cmp_eq h, decide_eq_true (by omega)]; rfl
  · rw [cmp_gt h, decide_eq_true (by omega)]; rfl

theorem lss_fin {x : Nat} (hx : x < 18446744073709551616) (h : x % 9223372036854775808 < 9218868437227405312) (w : World) :
    (double.order (truncBits x w) 4886405595696988160 == some .lt) = decide (whole x < 4611686018427387904) := by
  have e := bears_cmp (trunc_fin h w) bears_most
  rw [signed_whole hx] at e
  rw [e]
  simp only [Bool.false_eq_true, if_false]
  rcases Int.lt_trichotomy (whole x) ((4611686018427387904 : Nat) : Int) with h | h | h
  · rw [cmp_lt h, decide_eq_true (by omega)]; rfl
  · rw [cmp_eq h, decide_eq_false (by omega)]; rfl
  · rw [cmp_gt h, decide_eq_false (by omega)]; rfl

theorem conv_fin {x : Nat} (hx : x < 18446744073709551616) (hf : fits x = true) (w wx : World) : (convert 47 3 (.float .f64 (truncBits x w))).run Try.prog wx = .ok (.int .i64 (whole x)) wx := by
  simp only [fits, finite, Bool.and_eq_true, decide_eq_true_eq] at hf
  have e := bears_toInt (trunc_fin hf.1 w)
  rw [signed_whole hx] at e
  refine run_convert_float_int wx 47 3 .f64 .i64 _ _ (by kernel_rfl) Try.underlying3 ?_
  unfold floatToIntVal
  have e' : (FloatKind.f64.decode (truncBits x w)).toInt .zero = some (whole x) := e
  have i1 : IntKind.i64.min = -9223372036854775808 := by decide
  have i2 : IntKind.i64.max = 9223372036854775807 := by decide
  rw [e']
  simp only
  rw [i1, i2, if_pos (by omega)]

theorem whole_ok (x : Nat) (hx : x < 18446744073709551616) (hf : fits x = true) (w : World) : Calls Try.prog 33 #[.int .u64 x] w fun e w' => e = .returned (.tuple #[.int .i64 (whole x), .int .i64 0]) ∧ w = w' := by
  have c := conv_fin hx hf w
  simp only [fits, finite, Bool.and_eq_true, decide_eq_true_eq] at hf
  obtain ⟨h, h1, h2⟩ := hf
  have W := trunc_fin_world h w
  have g1 : (FloatKind.f64.format.order (truncBits x w) 14109777632551763968 == some .gt || FloatKind.f64.format.order (truncBits x w) 14109777632551763968 == some .eq) = true := (geq_fin hx h w).trans (decide_eq_true h1)
  have g2 : (FloatKind.f64.format.order (truncBits x w) 4886405595696988160 == some .lt) = true := (lss_fin hx h w).trans (decide_eq_true h2)
  clear h1 h2 h
  go_enter Try.func33, Try.ntmps33
  go_wp2_with (first | (go_at_call 39; go_in) | (go_at_call 42; go_in))
  go_ret2
  exact ⟨rfl, rfl⟩

theorem whole_bad1 (x : Nat) (w : World) (g1 : (FloatKind.f64.format.order (truncBits x w) 14109777632551763968 == some .gt || FloatKind.f64.format.order (truncBits x w) 14109777632551763968 == some .eq) = false) :
    Calls Try.prog 33 #[.int .u64 x] w fun e w' => e = .returned (.tuple #[.int .i64 0, .int .i64 1]) ∧ ∃ k, w' = w.drewN k := by
  go_enter Try.func33, Try.ntmps33
  go_wp2_with (first | (go_at_call 39; go_in) | (go_at_call 42; go_in))
  go_ret2
  exact ⟨rfl, truncWorld_drewN _ _⟩

theorem whole_bad2 (x : Nat) (w : World) (g1 : (FloatKind.f64.format.order (truncBits x w) 14109777632551763968 == some .gt || FloatKind.f64.format.order (truncBits x w) 14109777632551763968 == some .eq) = true)
    (g2 : (FloatKind.f64.format.order (truncBits x w) 4886405595696988160 == some .lt) = false) :
    Calls Try.prog 33 #[.int .u64 x] w fun e w' => e = .returned (.tuple #[.int .i64 0, .int .i64 1]) ∧ ∃ k, w' = w.drewN k := by
  go_enter Try.func33, Try.ntmps33
  go_wp2_with (first | (go_at_call 39; go_in) | (go_at_call 42; go_in))
  go_ret2
  exact ⟨rfl, truncWorld_drewN _ _⟩

theorem whole_bad (x : Nat) (hx : x < 18446744073709551616) (hf : fits x = false) (w : World) : Calls Try.prog 33 #[.int .u64 x] w fun e w' => e = .returned (.tuple #[.int .i64 0, .int .i64 1]) ∧ ∃ k, w' = w.drewN k := by
  by_cases h : x % 9223372036854775808 < 9218868437227405312
  · by_cases h1 : -4611686018427387904 ≤ whole x
    · have h2 : ¬ whole x < 4611686018427387904 := by
        intro h2
        simp only [fits, finite, decide_eq_true h, Bool.true_and, decide_eq_false_iff_not] at hf
        exact hf ⟨h1, h2⟩
      exact whole_bad2 x w ((geq_fin hx h w).trans (decide_eq_true h1)) ((lss_fin hx h w).trans (decide_eq_false h2))
    · exact whole_bad1 x w ((geq_fin hx h w).trans (decide_eq_false h1))
  · by_cases h3 : x % 9223372036854775808 = 9218868437227405312
    · have e := trunc_inf h3 w
      by_cases h4 : (x / 9223372036854775808 % 2 == 1) = true
      · rw [if_pos h4] at e
        refine whole_bad1 x w ?_
        rw [e]
        decide +kernel
      · rw [if_neg h4] at e
        refine whole_bad2 x w ?_ ?_
        · rw [e]; decide +kernel
        · rw [e]; decide +kernel
    · have hn : isNan x = true := by simp [isNan]; omega
      refine whole_bad1 x w ?_
      have e : FloatKind.f64.format.order (truncBits x w) 14109777632551763968 = none := order_nan_l (trunc_nan hn w)
      rw [e]; rfl
end Go.Proofs.Ytljpecbejaiphaa
