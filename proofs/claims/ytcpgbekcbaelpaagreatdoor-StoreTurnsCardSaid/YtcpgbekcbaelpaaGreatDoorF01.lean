/- Texts of the proof, in build order: Bits, WirePlain, RdPlain. -/
import Derived.RowKit
import Derived.Laws.BitsAllLaws
import Derived.Laws.BitsLemmas
import Derived.Laws.Bits64b
set_option linter.unusedVariables false
set_option linter.unusedSimpArgs false
set_option linter.unusedSectionVars false
/- Plain facts on bits of whole numbers of 64 bits with a sign. -/
namespace Go.Proofs.YtcpgbekcbaelpaaGreatDoor
open Go.RowKit
set_option linter.unusedSimpArgs false
set_option linter.unusedVariables false
set_option linter.unusedSectionVars false

def wr (n : Int) : Int := Int.bmod n 9223372036854775808
theorem wr_spec (n : Int) : ∃ k : Int, wr n = n - 9223372036854775808 * k ∧ -4611686018427387904 ≤ wr n ∧ wr n ≤ 4611686018427387903 := by
  refine ⟨(n + 4611686018427387904) / 9223372036854775808, ?_⟩
  unfold wr Int.bmod
  simp only []
  split <;> omega
theorem wr_ge (n : Int) : -4611686018427387904 ≤ wr n := (wr_spec n).choose_spec.2.1
theorem wr_le (n : Int) : wr n ≤ 4611686018427387903 := (wr_spec n).choose_spec.2.2
theorem wr_of_in (n : Int) (h1 : -4611686018427387904 ≤ n) (h2 : n ≤ 4611686018427387903) : wr n = n := by
  obtain ⟨k, h, h3, h4⟩ := wr_spec n
  omega
theorem wrap64_spec (n : Int) : ∃ k : Int, wrap64 n = n - 18446744073709551616 * k ∧ -9223372036854775808 ≤ wrap64 n ∧ wrap64 n ≤ 9223372036854775807 := by
  refine ⟨(n + 9223372036854775808) / 18446744073709551616, ?_⟩
  unfold wrap64
  omega
theorem wrap_id (n : Int) (h1 : -9223372036854775808 ≤ n) (h2 : n ≤ 9223372036854775807) : wrap64 n = n := by unfold wrap64; omega
theorem shl_shr (n : Int) : wrap64 (n * 2) / 2 = wr n := by
  obtain ⟨k, h, h1, h2⟩ := wrap64_spec (n * 2)
  obtain ⟨j, hj, h3, h4⟩ := wr_spec n
  omega

theorem toNat_ofInt (a : Int) : ((BitVec.ofInt 64 a).toNat : Int) = a % 18446744073709551616 := by
  rw [BitVec.toNat_ofInt]
  have : (0 : Int) ≤ a % ((2 ^ 64 : Nat) : Int) := Int.emod_nonneg _ (by decide)
  rw [Int.toNat_of_nonneg this]
  rfl

theorem and1 (a : Int) : bits .and .i64 a 1 = a % 2 := by
  have h := toNat_ofInt a
  show IntKind.i64.wrap (((BitVec.ofInt 64 a &&& BitVec.ofInt 64 1).toNat : Nat) : Int) = _
  rw [BitVec.toNat_and, show (BitVec.ofInt 64 1).toNat = 2 ^ 1 - 1 from by decide, Nat.and_two_pow_sub_one_eq_mod, IntKind.wrap_i64]
  omega

end Go.Proofs.YtcpgbekcbaelpaaGreatDoor
/- Numbers and texts as bytes, in plain words; no program in sight. -/
namespace Go.Proofs.YtcpgbekcbaelpaaGreatDoor.Wr

def zig (n : Int) : Nat := if 0 ≤ n then (2 * n).toNat else (-2 * n - 1).toNat
def zag (u : Nat) : Int := if u % 2 = 0 then (u / 2 : Nat) else -((u / 2 : Nat) : Int) - 1
theorem zag_zig (n : Int) : zag (zig n) = n := by
  unfold zag zig
  split <;> split <;> omega
theorem zig_zag (u : Nat) : zig (zag u) = u := by
  unfold zag zig
  split <;> split <;> omega
theorem zig_lt {n : Int} (h1 : -9223372036854775808 ≤ n) (h2 : n ≤ 9223372036854775807) : zig n < 18446744073709551616 := by
  unfold zig; split <;> omega

def var (u : Nat) : List UInt8 :=
  if h : u < 128 then [UInt8.ofNat u] else UInt8.ofNat (u % 128 + 128) :: var (u / 128)
  termination_by u
  decreasing_by omega
theorem var_small {u : Nat} (h : u < 128) : var u = [UInt8.ofNat u] := by rw [var]; simp [h]
theorem var_big {u : Nat} (h : 128 ≤ u) : var u = UInt8.ofNat (u % 128 + 128) :: var (u / 128) := by rw [var]; simp [Nat.not_lt.2 h]
theorem var_ne (u : Nat) : var u ≠ [] := by
  rw [var]; split <;> simp
theorem var_len_le (k : Nat) : ∀ u : Nat, u < 128 ^ (k + 1) → (var u).length ≤ k + 1 := by
  induction k with
  | zero => intro u h; rw [var_small (by simpa using h)]; simp
  | succ k ih =>
    intro u h
    by_cases hu : u < 128
    · rw [var_small hu]; simp
    · rw [var_big (by omega), List.length_cons]
      have := ih (u / 128) (by rw [Nat.pow_succ] at h; omega)
      omega
theorem var_len10 {u : Nat} (h : u < 18446744073709551616) : (var u).length ≤ 10 := var_len_le 9 u (by omega)

def num (n : Int) : List UInt8 := var (zig n)
def str (s : List UInt8) : List UInt8 := num s.length ++ s
theorem num_ne (n : Int) : num n ≠ [] := var_ne _
theorem num_len {n : Int} (h1 : -9223372036854775808 ≤ n) (h2 : n ≤ 9223372036854775807) : (num n).length ≤ 10 := var_len10 (zig_lt h1 h2)
theorem str_ne (s : List UInt8) : str s ≠ [] := by unfold str; simp [num_ne]
end Go.Proofs.YtcpgbekcbaelpaaGreatDoor.Wr
/- Numbers that are read, in plain words. -/
namespace Go.Proofs.YtcpgbekcbaelpaaGreatDoor.Wr

def rdv : Nat → Nat → Nat → List UInt8 → Except Int (Nat × List UInt8)
  | 0, _, _, _ => .error 2
  | _ + 1, _, _, [] => .error 3
  | f + 1, k, u, x :: b =>
    if k = 9 ∧ 1 < x.toNat then .error 2
    else if 128 ≤ x.toNat then rdv f (k + 1) (u + x.toNat % 128 * 2 ^ (7 * k)) b
    else if 0 < k ∧ x.toNat = 0 then .error 2
    else .ok (u + x.toNat * 2 ^ (7 * k), b)
theorem rdv_sound : ∀ (f k u : Nat) (b : List UInt8) (w : Nat) (r : List UInt8), rdv f k u b = .ok (w, r) → ∃ v, w = u + v * 2 ^ (7 * k) ∧ b = var v ++ r ∧ (0 < k → 0 < v)
  | 0, k, u, b, w, r, h => by simp [rdv] at h
  | f + 1, k, u, [], w, r, h => by simp [rdv] at h
  | f + 1, k, u, x :: b, w, r, h => by
    rw [rdv] at h
    split at h
    · cases h
    · split at h
      · rename_i hx
        obtain ⟨v, h1, h2, h3⟩ := rdv_sound f (k + 1) _ b w r h
        have hv := h3 (by omega)
        have hxl := x.toNat_lt
        refine ⟨x.toNat % 128 + 128 * v, ?_, ?_, fun _ => by omega⟩
        · rw [h1, show 7 * (k + 1) = 7 * k + 7 by omega, Nat.pow_add, Nat.add_mul]
          have : v * (2 ^ (7 * k) * 2 ^ 7) = 128 * v * 2 ^ (7 * k) := by
            rw [Nat.mul_comm (2 ^ (7 * k)), ← Nat.mul_assoc, Nat.mul_comm v]
          omega
        · rw [h2, var_big (u := x.toNat % 128 + 128 * v) (by omega)]
          have e1 : (x.toNat % 128 + 128 * v) % 128 + 128 = x.toNat := by omega
          have e2 : (x.toNat % 128 + 128 * v) / 128 = v := by omega
          rw [e1, e2]
          simp
      · split at h
        · cases h
        · rename_i hx hk
          simp only [Except.ok.injEq, Prod.mk.injEq] at h
          obtain ⟨rfl, rfl⟩ := h
          refine ⟨x.toNat, rfl, ?_, fun h0 => by omega⟩
          rw [var_small (by omega)]
          simp
theorem rdv_full : ∀ (f k u v : Nat) (r : List UInt8), f + k = 10 → 0 < f → v < 2 ^ (64 - 7 * k) → (0 < k → 0 < v) → rdv f k u (var v ++ r) = .ok (u + v * 2 ^ (7 * k), r)
  | 0, _, _, _, _, _, h, _, _ => by omega
  | f + 1, k, u, v, r, hf, _, hv, h0 => by
    by_cases hs : v < 128
    · rw [var_small hs, List.singleton_append, rdv]
      have e : (UInt8.ofNat v).toNat = v := by simp [UInt8.toNat_ofNat']; omega
      rw [e]
      have h9 : ¬ (k = 9 ∧ 1 < v) := by
        rintro ⟨rfl, h⟩
        have : (2 : Nat) ^ (64 - 7 * 9) = 2 := by decide
        omega
      rw [if_neg h9, if_neg (by omega), if_neg (by omega)]
    · rw [var_big (by omega), List.cons_append, rdv]
      have e : (UInt8.ofNat (v % 128 + 128)).toNat = v % 128 + 128 := by simp [UInt8.toNat_ofNat']; omega
      rw [e]
      have hk : k ≠ 9 := by
        rintro rfl
        have : (2 : Nat) ^ (64 - 7 * 9) = 2 := by decide
        omega
      have hk8 : k < 9 := by omega
      rw [if_neg (by omega), if_pos (by omega)]
      have hv2 : v / 128 < 2 ^ (64 - 7 * (k + 1)) := by
        have : (2 : Nat) ^ (64 - 7 * k) = 2 ^ (64 - 7 * (k + 1)) * 128 := by
          rw [show 64 - 7 * k = 64 - 7 * (k + 1) + 7 by omega, Nat.pow_add]
        omega
      rw [rdv_full f (k + 1) _ (v / 128) r (by omega) (by omega) hv2 (fun _ => by omega)]
      have e2 : (v % 128 + 128) % 128 = v % 128 := by omega
      rw [e2, show 7 * (k + 1) = 7 * k + 7 by omega, Nat.pow_add]
      have : v / 128 * (2 ^ (7 * k) * 2 ^ 7) = 128 * (v / 128) * 2 ^ (7 * k) := by
        rw [Nat.mul_comm (2 ^ (7 * k)), ← Nat.mul_assoc, Nat.mul_comm (v / 128)]
      rw [this, Nat.add_assoc, ← Nat.add_mul, show v % 128 + 128 * (v / 128) = v by omega]
end Go.Proofs.YtcpgbekcbaelpaaGreatDoor.Wr
