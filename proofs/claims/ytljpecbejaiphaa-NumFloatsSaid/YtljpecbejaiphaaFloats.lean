/- What the functions on floats come to: each call returns the bits, the truth or the number that the plain words say; the world is as it was, but for draws where an operation has no answer. -/
import Derived.Test.YtljpecbejaiphaaInts
import Derived.Test.YtljpecbejaiphaaIeee
import Derived.Deep.Draws
namespace Go.Proofs.Ytljpecbejaiphaa
open Go.RowKit

@[go_sem] theorem run_bits (b : Nat) (w : World) : (callFunc 43 #[.float .f64 b]).run Try.prog w = .ok (.value (.int .u64 b)) w := by
  rw [run_callFunc_extern (e := Extern.MathFloatBits.float64bits) Try.func43 (by kernel_rfl) rfl rfl (by kernel_rfl)]; rfl
@[go_sem] theorem run_frombits (n : Int) (w : World) : (callFunc 44 #[.int .u64 n]).run Try.prog w = .ok (.value (.float .f64 n.toNat)) w := by
  rw [run_callFunc_extern (e := Extern.MathFloatBits.float64frombits) Try.func44 (by kernel_rfl) rfl rfl (by kernel_rfl)]; rfl

/-- The bits of a NaN that the tape picks. -/
def picked (q : Question) (w : World) : Nat := q.cut (w.tape w.drawn q)

/-- What an operation on floats yields, and the world behind it. -/
def opBits (op : BinOp) (x y : Nat) (w : World) : Nat := (floatBits op .f64 x y).getD (picked (.nanBits .f64 x y) w)
def opWorld (op : BinOp) (x y : Nat) (w : World) : World := if (floatBits op .f64 x y).isSome then w else w.drew

theorem pick_nan (t : Nat) : 9218868437227405312 < (t % 2 * 9223372036854775808 + 9218868437227405312 + 1 + t / 2 % 4503599627370495) % 9223372036854775808 := by
  have h : t / 2 % 4503599627370495 < 4503599627370495 := Nat.mod_lt _ (by omega)
  generalize t / 2 % 4503599627370495 = c at *
  rcases Nat.mod_two_eq_zero_or_one t with e | e <;> rw [e]
  · rw [Nat.mod_eq_of_lt (by omega)]; omega
  · have e2 : 1 * 9223372036854775808 + 9218868437227405312 + 1 + c = 9218868437227405312 + 1 + c + 9223372036854775808 := by omega
    rw [e2, Nat.add_mod_right, Nat.mod_eq_of_lt (by omega)]; omega
theorem picked_nan (x y : Nat) (w : World) : isNan (picked (.nanBits .f64 x y) w) = true := by
  unfold picked isNan Question.cut
  rw [decide_eq_true_eq]
  exact pick_nan _

theorem opWorld_drewN (op : BinOp) (x y : Nat) (w : World) : ∃ k, opWorld op x y w = w.drewN k := by
  unfold opWorld
  split
  · exact ⟨0, rfl⟩
  · exact ⟨1, rfl⟩

theorem run_op (op : BinOp) (hop : op = .add ∨ op = .sub ∨ op = .mul ∨ op = .quo) (t : TypeId) (x y : Nat) (w : World) :
    (binOp op t (.float .f64 x) (.float .f64 y)).run Try.prog w = .ok (.float .f64 (opBits op x y w)) (opWorld op x y w) := by
  cases h : floatBits op .f64 x y with
  | some r => rw [run_float_arith w op t .f64 x y r h]; simp [opBits, opWorld, h]
  | none =>
    rcases hop with rfl | rfl | rfl | rfl <;>
    · have h' := h
      simp only [floatBits] at h'
      simp [binOp, Op.floatArith, h', opBits, opWorld, h, picked, Question.forced]

@[go_sem] theorem run_op_add (t : TypeId) (x y : Nat) (w : World) : (binOp .add t (.float .f64 x) (.float .f64 y)).run Try.prog w = .ok (.float .f64 (opBits .add x y w)) (opWorld .add x y w) := run_op _ (by simp) t x y w
@[go_sem] theorem run_op_sub (t : TypeId) (x y : Nat) (w : World) : (binOp .sub t (.float .f64 x) (.float .f64 y)).run Try.prog w = .ok (.float .f64 (opBits .sub x y w)) (opWorld .sub x y w) := run_op _ (by simp) t x y w
@[go_sem] theorem run_op_mul (t : TypeId) (x y : Nat) (w : World) : (binOp .mul t (.float .f64 x) (.float .f64 y)).run Try.prog w = .ok (.float .f64 (opBits .mul x y w)) (opWorld .mul x y w) := run_op _ (by simp) t x y w
@[go_sem] theorem run_op_quo (t : TypeId) (x y : Nat) (w : World) : (binOp .quo t (.float .f64 x) (.float .f64 y)).run Try.prog w = .ok (.float .f64 (opBits .quo x y w)) (opWorld .quo x y w) := run_op _ (by simp) t x y w
@[go_sem] theorem unary_neg_float (x : Nat) : Op.unary .neg (.float .f64 x) = pure (.float .f64 (Op.negFloat .f64 x)) := rfl

/-- The root's bits. -/
def rootBits (x : Nat) (w : World) : Nat := (Ieee.double.sqrt x).getD (picked (.nanBits .f64 x x) w)
def rootWorld (x : Nat) (w : World) : World := if (Ieee.double.sqrt x).isSome then w else w.drew
theorem rootWorld_drewN (x : Nat) (w : World) : ∃ k, rootWorld x w = w.drewN k := by
  unfold rootWorld
  split
  · exact ⟨0, rfl⟩
  · exact ⟨1, rfl⟩

@[go_sem] theorem run_sqrt (x : Nat) (w : World) : (callFunc 48 #[.float .f64 x]).run Try.prog w = .ok (.value (.float .f64 (rootBits x w))) (rootWorld x w) := by
  rw [run_callFunc_extern (e := Extern.MathSqrt.sqrt) Try.func48 (by kernel_rfl) rfl rfl (by kernel_rfl)]
  have e : Extern.MathSqrt.sqrt #[.float .f64 x] = (match Ieee.double.sqrt x with
    | some r => Pure.pure (Value.float .f64 r)
    | none => (choose (.nanBits .f64 x x)) >>= fun b => Pure.pure (Value.float .f64 b) : Sem Value) := rfl
  rw [e]
  cases h : Ieee.double.sqrt x with
  | some r => simp [h, rootBits, rootWorld, Result.andThen]
  | none => simp [h, rootBits, rootWorld, picked, Question.forced, Result.andThen]

/-- What an operation's answer is as a Float: the bits, or the one NaN. -/
def opr (op : BinOp) (x y : Nat) : Nat := (floatBits op .f64 x y).getD NAN
def root (x : Nat) : Nat := (Ieee.double.sqrt x).getD NAN

theorem canon_op (op : BinOp) (x y : Nat) (w : World) : canon (opBits op x y w) = opr op x y := by
  unfold opBits opr
  cases h : floatBits op .f64 x y with
  | some r => exact canon_of (bits_not_nan h)
  | none => exact canon_nan (picked_nan x y w)

theorem canon_root (x : Nat) (w : World) : canon (rootBits x w) = root x := by
  unfold rootBits root
  cases h : Ieee.double.sqrt x with
  | some r => exact canon_of (map_not_nan h fun e he => root_not_nan he)
  | none => exact canon_nan (picked_nan x x w)

theorem ret_bool {a b : Bool} (h : a = b) : Ending.returned (.bool a) = .returned (.bool b) := by rw [h]
theorem ret_nat {k : IntKind} {a b : Nat} (h : a = b) : Ending.returned (.int k (a : Int)) = .returned (.int k (b : Int)) := by rw [h]

theorem isNaN_any (b : Nat) (w : World) : Calls Try.prog 40 #[.float .f64 b] w fun e w' => e = .returned (.bool (isNan b)) ∧ w = w' := by
  go_enter Try.func40, Try.ntmps40
  go_wp2
  go_ret
  exact ⟨ret_bool (order_self b), rfl⟩

theorem of_any (b : Nat) (w : World) : Calls Try.prog 38 #[.float .f64 b] w fun e w' => e = .returned (.int .u64 (canon b)) ∧ w = w' := by
  cases h : isNan b
  · go_enter Try.func38, Try.ntmps38
    go_wp2_with (go_at_call 40; refine (isNaN_any _ _).mono ?_; rintro e w' ⟨rfl, rfl⟩)
    go_ret
    exact ⟨ret_nat (canon_of h).symm, rfl⟩
  · go_enter Try.func38, Try.ntmps38
    go_wp2_with (go_at_call 40; refine (isNaN_any _ _).mono ?_; rintro e w' ⟨rfl, rfl⟩)
    go_ret
    exact ⟨ret_nat (canon_nan h).symm, rfl⟩

theorem plus_any (x y : Nat) (w : World) : Calls Try.prog 21 #[.int .u64 x, .int .u64 y] w fun e w' => e = .returned (.int .u64 (opr .add x y)) ∧ ∃ k, w' = w.drewN k := by
  go_enter Try.func21, Try.ntmps21
  go_wp2_with (first | (go_at_call 39; go_in) | (go_at_call 38; refine (of_any _ _).mono ?_; rintro e w' ⟨rfl, rfl⟩))
  go_ret
  exact ⟨ret_nat (canon_op _ _ _ _), opWorld_drewN _ _ _ _⟩

theorem minus_any (x y : Nat) (w : World) : Calls Try.prog 23 #[.int .u64 x, .int .u64 y] w fun e w' => e = .returned (.int .u64 (opr .sub x y)) ∧ ∃ k, w' = w.drewN k := by
  go_enter Try.func23, Try.ntmps23
  go_wp2_with (first | (go_at_call 39; go_in) | (go_at_call 38; refine (of_any _ _).mono ?_; rintro e w' ⟨rfl, rfl⟩))
  go_ret
  exact ⟨ret_nat (canon_op _ _ _ _), opWorld_drewN _ _ _ _⟩

theorem times_any (x y : Nat) (w : World) : Calls Try.prog 22 #[.int .u64 x, .int .u64 y] w fun e w' => e = .returned (.int .u64 (opr .mul x y)) ∧ ∃ k, w' = w.drewN k := by
  go_enter Try.func22, Try.ntmps22
  go_wp2_with (first | (go_at_call 39; go_in) | (go_at_call 38; refine (of_any _ _).mono ?_; rintro e w' ⟨rfl, rfl⟩))
  go_ret
  exact ⟨ret_nat (canon_op _ _ _ _), opWorld_drewN _ _ _ _⟩

theorem over_any (x y : Nat) (w : World) : Calls Try.prog 28 #[.int .u64 x, .int .u64 y] w fun e w' => e = .returned (.int .u64 (opr .quo x y)) ∧ ∃ k, w' = w.drewN k := by
  go_enter Try.func28, Try.ntmps28
  go_wp2_with (first | (go_at_call 39; go_in) | (go_at_call 38; refine (of_any _ _).mono ?_; rintro e w' ⟨rfl, rfl⟩))
  go_ret
  exact ⟨ret_nat (canon_op _ _ _ _), opWorld_drewN _ _ _ _⟩

theorem root_any (x : Nat) (w : World) : Calls Try.prog 37 #[.int .u64 x] w fun e w' => e = .returned (.int .u64 (root x)) ∧ ∃ k, w' = w.drewN k := by
  go_enter Try.func37, Try.ntmps37
  go_wp2_with (first | (go_at_call 39; go_in) | (go_at_call 45; go_in) | (go_at_call 38; refine (of_any _ _).mono ?_; rintro e w' ⟨rfl, rfl⟩))
  go_ret
  exact ⟨ret_nat (canon_root _ _), rootWorld_drewN _ _⟩

theorem neg_any (x : Nat) (w : World) : Calls Try.prog 24 #[.int .u64 x] w fun e w' => e = .returned (.int .u64 (canon (Op.negFloat .f64 x))) ∧ w = w' := by
  go_enter Try.func24, Try.ntmps24
  go_wp2_with (first | (go_at_call 39; go_in) | (go_at_call 38; refine (of_any _ _).mono ?_; rintro e w' ⟨rfl, rfl⟩))
  go_ret
  exact ⟨rfl, rfl⟩

theorem less_any (x y : Nat) (w : World) : Calls Try.prog 29 #[.int .u64 x, .int .u64 y] w fun e w' => e = .returned (.bool (Ieee.double.order x y == some .lt)) ∧ w = w' := by
  go_enter Try.func29, Try.ntmps29
  go_wp2_with (first | (go_at_call 39; go_in))
  go_ret
  exact ⟨rfl, rfl⟩

theorem same_any (x y : Nat) (w : World) : Calls Try.prog 30 #[.int .u64 x, .int .u64 y] w fun e w' => e = .returned (.bool (Ieee.double.order x y == some .eq)) ∧ w = w' := by
  go_enter Try.func30, Try.ntmps30
  go_wp2_with (first | (go_at_call 39; go_in))
  go_ret
  exact ⟨rfl, rfl⟩

theorem ofInt_any (n : Int) (w : World) : Calls Try.prog 26 #[.int .i64 n] w fun e w' => e = .returned (.int .u64 (floatOfInt .f64 (wr n))) ∧ w = w' := by
  go_enter Try.func26, Try.ntmps26
  go_wp2_with (first | (go_at_call 11; refine (wrap_any _ _).mono ?_; rintro e w' ⟨rfl, rfl⟩) | (go_at_call 38; refine (of_any _ _).mono ?_; rintro e w' ⟨rfl, rfl⟩))
  go_ret
  exact ⟨ret_nat (canon_of (nearest_not_nan _ _ _)), rfl⟩

theorem isNan_any (x : Nat) (hx : x < 18446744073709551616) (w : World) : Calls Try.prog 27 #[.int .u64 x] w fun e w' => e = .returned (.bool (isNan x)) ∧ w = w' := by
  have H := Lib.hid (and63 x hx)
  clear hx
  go_enter Try.func27, Try.ntmps27
  go_wp2
  go_ret
  refine ⟨ret_bool ?_, rfl⟩
  simp only [isNan]
  rw [H.out]
  exact decide_eq_decide.2 (by omega)

theorem canon_any (x : Nat) (hx : x < 18446744073709551616) (w : World) : Calls Try.prog 25 #[.int .u64 x] w fun e w' => e = .returned (.int .u64 (canon x)) ∧ w = w' := by
  cases h : isNan x
  · go_enter Try.func25, Try.ntmps25
    go_wp2_with (go_at_call 27; refine (isNan_any _ hx _).mono ?_; rintro e w' ⟨rfl, rfl⟩)
    go_ret
    exact ⟨ret_nat (canon_of h).symm, rfl⟩
  · go_enter Try.func25, Try.ntmps25
    go_wp2_with (go_at_call 27; refine (isNan_any _ hx _).mono ?_; rintro e w' ⟨rfl, rfl⟩)
    go_ret
    exact ⟨ret_nat (canon_nan h).symm, rfl⟩

theorem rof_any (b : Nat) (w : World) : Calls Try.prog 35 #[.float .f64 b] w fun e w' => e = .returned (.int .u64 (canon b)) ∧ w = w' := by
  have H := Lib.hid (order_self b)
  cases h : isNan b
  · have h1 : (FloatKind.f64.format.order b b != some .eq) = false := by rw [← h]; exact order_self b
    have h2 := canon_of h
    go_enter Try.func35, Try.ntmps35
    go_wp2
    go_ret
    exact ⟨ret_nat h2.symm, rfl⟩
  · have h1 : (FloatKind.f64.format.order b b != some .eq) = true := by rw [← h]; exact order_self b
    have h2 := canon_nan h
    go_enter Try.func35, Try.ntmps35
    go_wp2
    go_ret
    exact ⟨ret_nat h2.symm, rfl⟩

theorem make0_any (x y : Nat) (w : World) : Calls Try.prog 36 #[.int .i64 0, .int .u64 x, .int .u64 y] w fun e w' => e = .returned (.int .u64 (opr .add x y)) ∧ ∃ k, w' = w.drewN k := by
  go_enter Try.func36, Try.ntmps36
  go_wp2_with (go_at_call 35; refine (rof_any _ _).mono ?_; rintro e w' ⟨rfl, rfl⟩)
  go_ret
  exact ⟨ret_nat (canon_op _ _ _ _), opWorld_drewN _ _ _ _⟩
theorem make1_any (x y : Nat) (w : World) : Calls Try.prog 36 #[.int .i64 1, .int .u64 x, .int .u64 y] w fun e w' => e = .returned (.int .u64 (opr .sub x y)) ∧ ∃ k, w' = w.drewN k := by
  go_enter Try.func36, Try.ntmps36
  go_wp2_with (go_at_call 35; refine (rof_any _ _).mono ?_; rintro e w' ⟨rfl, rfl⟩)
  go_ret
  exact ⟨ret_nat (canon_op _ _ _ _), opWorld_drewN _ _ _ _⟩
theorem make2_any (x y : Nat) (w : World) : Calls Try.prog 36 #[.int .i64 2, .int .u64 x, .int .u64 y] w fun e w' => e = .returned (.int .u64 (opr .mul x y)) ∧ ∃ k, w' = w.drewN k := by
  go_enter Try.func36, Try.ntmps36
  go_wp2_with (go_at_call 35; refine (rof_any _ _).mono ?_; rintro e w' ⟨rfl, rfl⟩)
  go_ret
  exact ⟨ret_nat (canon_op _ _ _ _), opWorld_drewN _ _ _ _⟩
theorem make3_any (x y : Nat) (w : World) : Calls Try.prog 36 #[.int .i64 3, .int .u64 x, .int .u64 y] w fun e w' => e = .returned (.int .u64 (opr .quo x y)) ∧ ∃ k, w' = w.drewN k := by
  go_enter Try.func36, Try.ntmps36
  go_wp2_with (go_at_call 35; refine (rof_any _ _).mono ?_; rintro e w' ⟨rfl, rfl⟩)
  go_ret
  exact ⟨ret_nat (canon_op _ _ _ _), opWorld_drewN _ _ _ _⟩
theorem make4_any (x y : Nat) (w : World) : Calls Try.prog 36 #[.int .i64 4, .int .u64 x, .int .u64 y] w fun e w' => e = .returned (.int .u64 (root x)) ∧ ∃ k, w' = w.drewN k := by
  go_enter Try.func36, Try.ntmps36
  go_wp2_with (first | (go_at_call 45; go_in) | (go_at_call 35; refine (rof_any _ _).mono ?_; rintro e w' ⟨rfl, rfl⟩))
  go_ret
  exact ⟨ret_nat (canon_root _ _), rootWorld_drewN _ _⟩
theorem make5_any (x y : Nat) (hx : x < 18446744073709551616) (w : World) : Calls Try.prog 36 #[.int .i64 5, .int .u64 x, .int .u64 y] w fun e w' => e = .returned (.int .u64 (canon (turned x))) ∧ w = w' := by
  have H := Lib.hid (bxor63 x hx)
  have H2 := Lib.hid (isNan_turned x hx)
  clear hx
  cases h : isNan x
  · have h1 : (FloatKind.f64.format.order x x != some .eq) = false := by rw [← h]; exact order_self x
    have h2 : canon (turned x) = turned x := canon_of (by rw [H2.out, h])
    go_enter Try.func36, Try.ntmps36
    go_wp2
    go_ret
    refine ⟨?_, rfl⟩
    rw [h2]
    exact ret_int H.out
  · have h1 : (FloatKind.f64.format.order x x != some .eq) = true := by rw [← h]; exact order_self x
    have h2 : canon (turned x) = NAN := canon_nan (by rw [H2.out, h])
    go_enter Try.func36, Try.ntmps36
    go_wp2
    go_ret
    refine ⟨?_, rfl⟩
    rw [h2]
    rfl

/-- The law NumFloats. -/
theorem floats_walk (x y : Nat) (hx : x < 18446744073709551616) (w : World) : Calls Try.prog 9 #[.int .u64 x, .int .u64 y] w fun e w' => e = .returned (.bool true) ∧ ∃ k, w' = w.drewN k := by
  have e1 := negFloat_eq x hx
  go_enter Try.func9, Try.ntmps9
  go_wp2_with (first | (go_at_call 12; refine (counts_any _).mono ?_; rintro e w' ⟨rfl, rfl⟩) | (go_at_call 21; refine (plus_any _ _ _).mono ?_; rintro e w' ⟨rfl, k, rfl⟩) | (go_at_call 22; refine (times_any _ _ _).mono ?_; rintro e w' ⟨rfl, k, rfl⟩) | (go_at_call 23; refine (minus_any _ _ _).mono ?_; rintro e w' ⟨rfl, k, rfl⟩) | (go_at_call 28; refine (over_any _ _ _).mono ?_; rintro e w' ⟨rfl, k, rfl⟩) | (go_at_call 37; refine (root_any _ _).mono ?_; rintro e w' ⟨rfl, k, rfl⟩) | (go_at_call 24; refine (neg_any _ _).mono ?_; rintro e w' ⟨rfl, rfl⟩) | (go_at_call 36; first | (with_reducible refine (make0_any _ _ _).mono ?_); rintro e w' ⟨rfl, k, rfl⟩ | (with_reducible refine (make1_any _ _ _).mono ?_); rintro e w' ⟨rfl, k, rfl⟩ | (with_reducible refine (make2_any _ _ _).mono ?_); rintro e w' ⟨rfl, k, rfl⟩ | (with_reducible refine (make3_any _ _ _).mono ?_); rintro e w' ⟨rfl, k, rfl⟩ | (with_reducible refine (make4_any _ _ _).mono ?_); rintro e w' ⟨rfl, k, rfl⟩ | (with_reducible refine (make5_any _ _ hx _).mono ?_); rintro e w' ⟨rfl, rfl⟩) | (go_at_call 39; go_in) | (go_at_call 38; refine (of_any _ _).mono ?_; rintro e w' ⟨rfl, rfl⟩) | (go_at_call 25; refine (canon_any _ hx _).mono ?_; rintro e w' ⟨rfl, rfl⟩))
  go_ways
  go_ret
  exact ⟨rfl, _, rfl⟩
end Go.Proofs.Ytljpecbejaiphaa
