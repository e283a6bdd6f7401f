/- Plain facts on whole numbers that go round at 2^63, with no program in sight. -/
import Derived.RowKit
import Derived.Laws.BitsLemmas
import Derived.Laws.Bits64
namespace Go.Proofs.Ytljpecbejaiphaa
open Go.RowKit

/-- A whole number as an integer of 63 bits. -/
def wr (n : Int) : Int := Int.bmod n 9223372036854775808

theorem wr_spec (n : Int) : ∃ k : Int, wr n = n - 9223372036854775808 * k ∧ -4611686018427387904 ≤ wr n ∧ wr n ≤ 4611686018427387903 := by
  refine ⟨(n + 4611686018427387904) / 9223372036854775808, ?_⟩
  unfold wr Int.bmod
  simp only []
  split <;> omega

theorem wr_ge (n : Int) : -4611686018427387904 ≤ wr n := (wr_spec n).choose_spec.2.1
theorem wr_le (n : Int) : wr n ≤ 4611686018427387903 := (wr_spec n).choose_spec.2.2

theorem wr_eq_of (a b k : Int) (h : a = b + 9223372036854775808 * k) : wr a = wr b := by
  obtain ⟨i, hi, h1, h2⟩ := wr_spec a
  obtain ⟨j, hj, h3, h4⟩ := wr_spec b
  omega

theorem wr_of_in (n : Int) (h1 : -4611686018427387904 ≤ n) (h2 : n ≤ 4611686018427387903) : wr n = n := by
  obtain ⟨k, h, h3, h4⟩ := wr_spec n
  omega

theorem wr_wr (n : Int) : wr (wr n) = wr n := wr_of_in _ (wr_ge n) (wr_le n)

theorem wrap64_spec (n : Int) : ∃ k : Int, wrap64 n = n - 18446744073709551616 * k ∧ -9223372036854775808 ≤ wrap64 n ∧ wrap64 n ≤ 9223372036854775807 := by
  refine ⟨(n + 9223372036854775808) / 18446744073709551616, ?_⟩
  unfold wrap64
  omega

theorem u64_spec (n : Int) : ∃ k : Int, IntKind.u64.wrap n = n - 18446744073709551616 * k ∧ 0 ≤ IntKind.u64.wrap n ∧ IntKind.u64.wrap n ≤ 18446744073709551615 := by
  refine ⟨n / 18446744073709551616, ?_⟩
  rw [IntKind.wrap_u64]
  omega

theorem wr_wrap64 (n : Int) : wr (wrap64 n) = wr n := by
  obtain ⟨k, h, _, _⟩ := wrap64_spec n
  exact wr_eq_of _ _ (-2 * k) (by omega)

theorem wr_u64 (n : Int) : wr (IntKind.u64.wrap n) = wr n := by
  obtain ⟨k, h, _, _⟩ := u64_spec n
  exact wr_eq_of _ _ (-2 * k) (by omega)

theorem shl_shr (n : Int) : wrap64 (n * 2) / 2 = wr n := by
  obtain ⟨k, h, h1, h2⟩ := wrap64_spec (n * 2)
  obtain ⟨j, hj, h3, h4⟩ := wr_spec n
  omega

theorem shl_shr_u (n : Int) : wrap64 (IntKind.u64.wrap (IntKind.u64.wrap n * 2)) / 2 = wr n := by
  obtain ⟨k, h, h1, h2⟩ := wrap64_spec (IntKind.u64.wrap (IntKind.u64.wrap n * 2))
  obtain ⟨j, hj, h3, h4⟩ := wr_spec n
  obtain ⟨i, hi, h5, h6⟩ := u64_spec (IntKind.u64.wrap n * 2)
  obtain ⟨m, hm, h7, h8⟩ := u64_spec n
  omega

theorem wr_add_l (a b : Int) : wr (wr a + b) = wr (a + b) := by
  obtain ⟨k, h, _, _⟩ := wr_spec a
  exact wr_eq_of _ _ (-k) (by omega)
theorem wr_add_r (a b : Int) : wr (a + wr b) = wr (a + b) := by
  obtain ⟨k, h, _, _⟩ := wr_spec b
  exact wr_eq_of _ _ (-k) (by omega)
theorem wr_sub_l (a b : Int) : wr (wr a - b) = wr (a - b) := by
  obtain ⟨k, h, _, _⟩ := wr_spec a
  exact wr_eq_of _ _ (-k) (by omega)
theorem wr_sub_r (a b : Int) : wr (a - wr b) = wr (a - b) := by
  obtain ⟨k, h, _, _⟩ := wr_spec b
  exact wr_eq_of _ _ k (by omega)
theorem wr_mul_l (a b : Int) : wr (wr a * b) = wr (a * b) := by
  obtain ⟨k, h, _, _⟩ := wr_spec a
  refine wr_eq_of _ _ (-(k * b)) ?_
  rw [h, Int.sub_mul, Int.mul_assoc]
  omega
theorem wr_mul_r (a b : Int) : wr (a * wr b) = wr (a * b) := by
  rw [Int.mul_comm, wr_mul_l, Int.mul_comm]

theorem tdiv_bound (a b : Int) (ha : -4611686018427387904 ≤ a) (ha2 : a ≤ 4611686018427387903) : -4611686018427387904 ≤ a.tdiv b ∧ a.tdiv b ≤ 4611686018427387904 := by
  have h1 : (a.tdiv b).natAbs = a.natAbs / b.natAbs := Int.natAbs_tdiv a b
  have h2 : a.natAbs / b.natAbs ≤ a.natAbs := Nat.div_le_self _ _
  omega

theorem divs (a b : Int) : wr (wr (wr ((wr a).tdiv (wr b)) * b) + (wr a).tmod (wr b)) = wr a := by
  rw [wr_add_l, ← wr_add_l, wr_mul_l, ← wr_mul_r, wr_add_l, Int.mul_comm, Int.mul_tdiv_add_tmod, wr_wr]

/-! Multiplication, bit by bit -/
theorem u64_eq_of (a b k : Int) (h : a = b + 18446744073709551616 * k) : IntKind.u64.wrap a = IntKind.u64.wrap b := by
  obtain ⟨i, hi, h1, h2⟩ := u64_spec a
  obtain ⟨j, hj, h3, h4⟩ := u64_spec b
  omega

theorem u64_add_l (a b : Int) : IntKind.u64.wrap (IntKind.u64.wrap a + b) = IntKind.u64.wrap (a + b) := by
  obtain ⟨k, h, _, _⟩ := u64_spec a
  exact u64_eq_of _ _ (-k) (by omega)
theorem u64_add_r (a b : Int) : IntKind.u64.wrap (a + IntKind.u64.wrap b) = IntKind.u64.wrap (a + b) := by
  rw [Int.add_comm, u64_add_l, Int.add_comm]
theorem u64_mul_l (a b : Int) : IntKind.u64.wrap (IntKind.u64.wrap a * b) = IntKind.u64.wrap (a * b) := by
  obtain ⟨k, h, _, _⟩ := u64_spec a
  refine u64_eq_of _ _ (-(k * b)) ?_
  rw [h, Int.sub_mul, Int.mul_assoc]
  omega
theorem u64_mul_r (a b : Int) : IntKind.u64.wrap (a * IntKind.u64.wrap b) = IntKind.u64.wrap (a * b) := by
  rw [Int.mul_comm, u64_mul_l, Int.mul_comm]

/-- The product of 'a' and the lowest 'k' bits of 'b'. -/
def mulTo (a b : Int) (k : Nat) : Int := a * (IntKind.u64.wrap b % 2 ^ k)

theorem mulTo_zero (a b : Int) : mulTo a b 0 = 0 := by simp [mulTo, Int.emod_one]

theorem mod_succ (u : Int) (hu : 0 ≤ u) (k : Nat) : u % 2 ^ (k + 1) = u % 2 ^ k + 2 ^ k * ((u / 2 ^ k).tmod 2) := by
  obtain ⟨n, rfl⟩ := Int.eq_ofNat_of_zero_le hu
  have h := Nat.mod_mul (a := 2 ^ k) (b := 2) (x := n)
  rw [← Nat.pow_succ] at h
  have e : ((n : Int) / 2 ^ k).tmod 2 = ((n / 2 ^ k % 2 : Nat) : Int) := by
    rw [Int.tmod_eq_emod_of_nonneg (by exact Int.ediv_nonneg hu (by exact_mod_cast Nat.zero_le _))]
    push_cast; rfl
  rw [e]
  exact_mod_cast h

theorem mulTo_one (a b : Int) (k : Nat) (h : ((IntKind.u64.wrap b / 2 ^ k).tmod 2 == 1) = true) :
    IntKind.u64.wrap (IntKind.u64.wrap (mulTo a b k) + IntKind.u64.wrap (IntKind.u64.wrap a * 2 ^ k)) = IntKind.u64.wrap (mulTo a b (k + 1)) := by
  obtain ⟨j, hj, h3, h4⟩ := u64_spec b
  have h' : (IntKind.u64.wrap b / 2 ^ k).tmod 2 = 1 := by simpa using h
  rw [u64_add_l, u64_add_r, Int.add_comm, ← u64_add_l, u64_mul_l, u64_add_l, Int.add_comm]
  unfold mulTo
  rw [mod_succ _ h3, h', Int.mul_one, Int.mul_add]

theorem mulTo_none (a b : Int) (k : Nat) (h : ((IntKind.u64.wrap b / 2 ^ k).tmod 2 == 1) = false) : mulTo a b (k + 1) = mulTo a b k := by
  obtain ⟨j, hj, h3, h4⟩ := u64_spec b
  have h' : ¬ (IntKind.u64.wrap b / 2 ^ k).tmod 2 = 1 := by simpa using h
  have h0 : 0 ≤ IntKind.u64.wrap b / 2 ^ k := Int.ediv_nonneg h3 (by exact_mod_cast Nat.zero_le _)
  have e : (IntKind.u64.wrap b / 2 ^ k).tmod 2 = 0 := by
    rw [Int.tmod_eq_emod_of_nonneg h0] at *; omega
  unfold mulTo
  rw [mod_succ _ h3, e]; simp

theorem mulTo_all (a b : Int) : wr (wrap64 (IntKind.u64.wrap (mulTo a b 64))) = wr (a * b) := by
  rw [wr_wrap64, wr_u64]
  unfold mulTo
  obtain ⟨j, hj, h3, h4⟩ := u64_spec b
  have : IntKind.u64.wrap b % 2 ^ 64 = IntKind.u64.wrap b := Int.emod_eq_of_lt h3 (by omega)
  rw [this, ← wr_mul_r, wr_u64, wr_mul_r]
end Go.Proofs.Ytljpecbejaiphaa
