/- Texts of the proof, in build order: Bits, WirePlain. -/
import Derived.RowKit
import Derived.Laws.BitsAllLaws
import Derived.Laws.BitsLemmas
import Derived.Laws.Bits64b
/- Plain facts on bits of whole numbers of 64 bits with a sign. -/
namespace Go.Proofs.YtenikoecnfbfoaaGreatDoor
open Go.RowKit
set_option linter.unusedSimpArgs false
set_option linter.unusedVariables false
set_option linter.unusedSectionVars false

/-- A whole number as an integer of 63 bits. -/
def wr (n : Int) : Int := Int.bmod n 9223372036854775808
theorem wr_spec (n : Int) : ∃ k : Int, wr n = n - 9223372036854775808 * k ∧ -4611686018427387904 ≤ wr n ∧ wr n ≤ 4611686018427387903 := by
  refine ⟨(n + 4611686018427387904) / 9223372036854775808, ?_⟩
  unfold wr Int.bmod
  simp only []
  split <;> omega
theorem wr_ge (n : Int) : -4611686018427387904 ≤ wr n := (wr_spec n).choose_spec.2.1
theorem wr_le (n : Int) : wr n ≤ 4611686018427387903 := (wr_spec n).choose_spec.2.2
theorem wr_of_in (n : Int) (h1 : -4611686018427387904 ≤ n) (h2 : n ≤ 4611686018427387903) : wr n = n := by
  obtain ⟨k, h, h3, h4⟩ := wr_spec n
  omega
theorem wr_wr (n : Int) : wr (wr n) = wr n := wr_of_in _ (wr_ge n) (wr_le n)
theorem wrap64_spec (n : Int) : ∃ k : Int, wrap64 n = n - 18446744073709551616 * k ∧ -9223372036854775808 ≤ wrap64 n ∧ wrap64 n ≤ 9223372036854775807 := by
  refine ⟨(n + 9223372036854775808) / 18446744073709551616, ?_⟩
  unfold wrap64
  omega
theorem wrap_id (n : Int) (h1 : -9223372036854775808 ≤ n) (h2 : n ≤ 9223372036854775807) : wrap64 n = n := by unfold wrap64; omega
theorem shl_shr (n : Int) : wrap64 (n * 2) / 2 = wr n := by
  obtain ⟨k, h, h1, h2⟩ := wrap64_spec (n * 2)
  obtain ⟨j, hj, h3, h4⟩ := wr_spec n
  omega

theorem toNat_ofInt (a : Int) : ((BitVec.ofInt 64 a).toNat : Int) = a % 18446744073709551616 := by
  rw [BitVec.toNat_ofInt]
  have : (0 : Int) ≤ a % ((2 ^ 64 : Nat) : Int) := Int.emod_nonneg _ (by decide)
  rw [Int.toNat_of_nonneg this]
  rfl

theorem and1 (a : Int) : bits .and .i64 a 1 = a % 2 := by
  have h := toNat_ofInt a
  show IntKind.i64.wrap (((BitVec.ofInt 64 a &&& BitVec.ofInt 64 1).toNat : Nat) : Int) = _
  rw [BitVec.toNat_and, show (BitVec.ofInt 64 1).toNat = 2 ^ 1 - 1 from by decide, Nat.and_two_pow_sub_one_eq_mod, IntKind.wrap_i64]
  omega

theorem or1 (a : Int) (h1 : -4611686018427387904 ≤ a) (h2 : a ≤ 4611686018427387903) : bits .or .i64 (a * 2) 1 = 2 * a + 1 := by
  have h := toNat_ofInt (a * 2)
  show IntKind.i64.wrap (((BitVec.ofInt 64 (a * 2) ||| BitVec.ofInt 64 1).toNat : Nat) : Int) = _
  rw [BitVec.toNat_or, show (BitVec.ofInt 64 1).toNat = 1 from by decide]
  generalize (BitVec.ofInt 64 (a * 2)).toNat = x at h
  have hx : x % 2 = 0 := by omega
  rw [nat_join 1 x 1 (by omega) (by omega), IntKind.wrap_i64]
  omega

theorem wraps_i64 (n : Int) (h0 : 0 ≤ n) (h1 : n < 2 ^ 63) : IntKind.i64.wrap n = n := by rw [IntKind.wrap_i64]; omega

theorem i64_and_nat (a b : Nat) (ha : a < 9223372036854775808) (hb : b < 9223372036854775808) : bits .and .i64 (a : Int) (b : Int) = ((a &&& b : Nat) : Int) :=
  (bits_nat .i64 63 (by decide) wraps_i64 a b ha hb).1
theorem i64_or_nat (a b : Nat) (ha : a < 9223372036854775808) (hb : b < 9223372036854775808) : bits .or .i64 (a : Int) (b : Int) = ((a ||| b : Nat) : Int) :=
  (bits_nat .i64 63 (by decide) wraps_i64 a b ha hb).2

/-- A head of fields. -/
theorem head_or (n k : Nat) (hn : n ≤ 4194304) (hk : k < 2048) : bits .or .i64 ((n : Int) * 2048) (k : Int) = (n : Int) * 2048 + k := by
  rw [show (n : Int) * 2048 = ((n * 2048 : Nat) : Int) from by omega, i64_or_nat _ _ (by omega) (by omega), nat_join 11 (n * 2048) k (by omega) (by omega)]
  omega
theorem and_1024 (a : Nat) (ha : a < 9223372036854775808) : bits .and .i64 (a : Int) 1024 = ((a / 1024 % 2 * 1024 : Nat) : Int) := by
  rw [show (1024 : Int) = ((1024 : Nat) : Int) from rfl, i64_and_nat _ _ ha (by omega), show (1024 : Nat) = 2 ^ 10 from by decide, nat_bit]
theorem and_1023 (a : Nat) (ha : a < 9223372036854775808) : bits .and .i64 (a : Int) 1023 = ((a % 1024 : Nat) : Int) := by
  rw [show (1023 : Int) = ((1023 : Nat) : Int) from rfl, i64_and_nat _ _ ha (by omega), nat_mask10]

/-- One byte more, above the others. -/
theorem u64_or_byte (x b k : Nat) (hx : x < 2 ^ (8 * k)) (hb : b < 256) (hk : k < 8) : bits .or .u64 (x : Int) ((b * 2 ^ (8 * k) : Nat) : Int) = ((x + b * 2 ^ (8 * k) : Nat) : Int) := by
  have h1 : b * 2 ^ (8 * k) < 256 * 2 ^ (8 * k) := Nat.mul_lt_mul_of_pos_right hb (Nat.two_pow_pos _)
  have h2 : 256 * 2 ^ (8 * k) ≤ 18446744073709551616 := by
    have : 2 ^ (8 * k) ≤ 2 ^ 56 := Nat.pow_le_pow_right (by omega) (by omega)
    omega
  have h3 : 2 ^ (8 * k) ≤ 2 ^ 56 := Nat.pow_le_pow_right (by omega) (by omega)
  rw [u64_or_nat _ _ (by omega) (by omega), Nat.or_comm, nat_join (8 * k) _ x (Nat.mul_mod_left _ _) hx, Nat.add_comm]
end Go.Proofs.YtenikoecnfbfoaaGreatDoor
/- Numbers and texts as bytes, in plain words; no program in sight. -/
namespace Go.Proofs.YtenikoecnfbfoaaGreatDoor.Wr

/-- A number with a sign, as one without. -/
def zig (n : Int) : Nat := if 0 ≤ n then (2 * n).toNat else (-2 * n - 1).toNat
def zag (u : Nat) : Int := if u % 2 = 0 then (u / 2 : Nat) else -((u / 2 : Nat) : Int) - 1
theorem zag_zig (n : Int) : zag (zig n) = n := by
  unfold zag zig
  split <;> split <;> omega
theorem zig_zag (u : Nat) : zig (zag u) = u := by
  unfold zag zig
  split <;> split <;> omega
theorem zig_lt {n : Int} (h1 : -9223372036854775808 ≤ n) (h2 : n ≤ 9223372036854775807) : zig n < 18446744073709551616 := by
  unfold zig; split <;> omega

/-- A number without a sign, seven bits to a byte, the lowest first. -/
def var (u : Nat) : List UInt8 :=
  if h : u < 128 then [UInt8.ofNat u] else UInt8.ofNat (u % 128 + 128) :: var (u / 128)
  termination_by u
  decreasing_by omega
theorem var_small {u : Nat} (h : u < 128) : var u = [UInt8.ofNat u] := by rw [var]; simp [h]
theorem var_big {u : Nat} (h : 128 ≤ u) : var u = UInt8.ofNat (u % 128 + 128) :: var (u / 128) := by rw [var]; simp [Nat.not_lt.2 h]
theorem var_ne (u : Nat) : var u ≠ [] := by
  rw [var]; split <;> simp
theorem var_len_le (k : Nat) : ∀ u : Nat, u < 128 ^ (k + 1) → (var u).length ≤ k + 1 := by
  induction k with
  | zero => intro u h; rw [var_small (by simpa using h)]; simp
  | succ k ih =>
    intro u h
    by_cases hu : u < 128
    · rw [var_small hu]; simp
    · rw [var_big (by omega), List.length_cons]
      have := ih (u / 128) (by rw [Nat.pow_succ] at h; omega)
      omega
theorem var_len10 {u : Nat} (h : u < 18446744073709551616) : (var u).length ≤ 10 := var_len_le 9 u (by omega)

def num (n : Int) : List UInt8 := var (zig n)
def str (s : List UInt8) : List UInt8 := num s.length ++ s
theorem num_ne (n : Int) : num n ≠ [] := var_ne _
theorem num_len {n : Int} (h1 : -9223372036854775808 ≤ n) (h2 : n ≤ 9223372036854775807) : (num n).length ≤ 10 := var_len10 (zig_lt h1 h2)
theorem str_ne (s : List UInt8) : str s ≠ [] := by unfold str; simp [num_ne]
end Go.Proofs.YtenikoecnfbfoaaGreatDoor.Wr
