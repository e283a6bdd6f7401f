/- Numbers and texts as bytes, in plain words; no program in sight. -/
import Derived.RowKit
import Derived.Laws.BitsAllLaws
import Derived.Laws.BitsLemmas
import Derived.Laws.Bits64b
namespace Go.Proofs.YtofmbpmmgpbdbaaDoor.Wr

/-- A number with a sign, as one without. -/
def zig (n : Int) : Nat := if 0 ≤ n then (2 * n).toNat else (-2 * n - 1).toNat
def zag (u : Nat) : Int := if u % 2 = 0 then (u / 2 : Nat) else -((u / 2 : Nat) : Int) - 1
theorem zag_zig (n : Int) : zag (zig n) = n := by
  unfold zag zig
  split <;> split <;> omega
theorem zig_zag (u : Nat) : zig (zag u) = u := by
  unfold zag zig
  split <;> split <;> omega
theorem zig_lt {n : Int} (h1 : -9223372036854775808 ≤ n) (h2 : n ≤ 9223372036854775807) : zig n < 18446744073709551616 := by
  unfold zig; split <;> omega

/-- A number without a sign, seven bits to a byte, the lowest first. -/
def var (u : Nat) : List UInt8 :=
  if h : u < 128 then [UInt8.ofNat u] else UInt8.ofNat (u % 128 + 128) :: var (u / 128)
  termination_by u
  decreasing_by omega
theorem var_small {u : Nat} (h : u < 128) : var u = [UInt8.ofNat u] := by rw [var]; simp [h]
theorem var_big {u : Nat} (h : 128 ≤ u) : var u = UInt8.ofNat (u % 128 + 128) :: var (u / 128) := by rw [var]; simp [Nat.not_lt.2 h]
theorem var_ne (u : Nat) : var u ≠ [] := by
  rw [var]; split <;> simp
theorem var_len_le (k : Nat) : ∀ u : Nat, u < 128 ^ (k + 1) → (var u).length ≤ k + 1 := by
  induction k with
  | zero => intro u h; rw [var_small (by simpa using h)]; simp
  | succ k ih =>
    intro u h
    by_cases hu : u < 128
    · rw [var_small hu]; simp
    · rw [var_big (by omega), List.length_cons]
      have := ih (u / 128) (by rw [Nat.pow_succ] at h; omega)
      omega
theorem var_len10 {u : Nat} (h : u < 18446744073709551616) : (var u).length ≤ 10 := var_len_le 9 u (by omega)

def num (n : Int) : List UInt8 := var (zig n)
def str (s : List UInt8) : List UInt8 := num s.length ++ s
theorem num_ne (n : Int) : num n ≠ [] := var_ne _
theorem num_len {n : Int} (h1 : -9223372036854775808 ≤ n) (h2 : n ≤ 9223372036854775807) : (num n).length ≤ 10 := var_len10 (zig_lt h1 h2)
theorem str_ne (s : List UInt8) : str s ≠ [] := by unfold str; simp [num_ne]
end Go.Proofs.YtofmbpmmgpbdbaaDoor.Wr
