/- Numbers that are read, in plain words. -/
import Derived.Test.YtofmbpmmgpbdbaaDoorWirePlain
namespace Go.Proofs.YtofmbpmmgpbdbaaDoor.Wr

/-- A number's bits, read. -/
def rdv : Nat → Nat → Nat → List UInt8 → Except Int (Nat × List UInt8)
  | 0, _, _, _ => .error 2
  | _ + 1, _, _, [] => .error 3
  | f + 1, k, u, x :: b =>
    if k = 9 ∧ 1 < x.toNat then .error 2
    else if 128 ≤ x.toNat then rdv f (k + 1) (u + x.toNat % 128 * 2 ^ (7 * k)) b
    else if 0 < k ∧ x.toNat = 0 then .error 2
    else .ok (u + x.toNat * 2 ^ (7 * k), b)
theorem rdv_sound : ∀ (f k u : Nat) (b : List UInt8) (w : Nat) (r : List UInt8), rdv f k u b = .ok (w, r) → ∃ v, w = u + v * 2 ^ (7 * k) ∧ b = var v ++ r ∧ (0 < k → 0 < v)
  | 0, k, u, b, w, r, h => by simp [rdv] at h
  | f + 1, k, u, [], w, r, h => by simp [rdv] at h
  | f + 1, k, u, x :: b, w, r, h => by
    rw [rdv] at h
    split at h
    · cases h
    · split at h
      · rename_i hx
        obtain ⟨v, h1, h2, h3⟩ := rdv_sound f (k + 1) _ b w r h
        have hv := h3 (by omega)
        have hxl := x.toNat_lt
        refine ⟨x.toNat % 128 + 128 * v, ?_, ?_, fun _ => by omega⟩
        · rw [h1, show 7 * (k + 1) = 7 * k + 7 by omega, Nat.pow_add, Nat.add_mul]
          have : v * (2 ^ (7 * k) * 2 ^ 7) = 128 * v * 2 ^ (7 * k) := by
            rw [Nat.mul_comm (2 ^ (7 * k)), ← Nat.mul_assoc, Nat.mul_comm v]
          omega
        · rw [h2, var_big (u := x.toNat % 128 + 128 * v) (by omega)]
          have e1 : (x.toNat % 128 + 128 * v) % 128 + 128 = x.toNat := by omega
          have e2 : (x.toNat % 128 + 128 * v) / 128 = v := by omega
          rw [e1, e2]
          simp
      · split at h
        · cases h
        · rename_i hx hk
          simp only [Except.ok.injEq, Prod.mk.injEq] at h
          obtain ⟨rfl, rfl⟩ := h
          refine ⟨x.toNat, rfl, ?_, fun h0 => by omega⟩
          rw [var_small (by omega)]
          simp
theorem rdv_full : ∀ (f k u v : Nat) (r : List UInt8), f + k = 10 → 0 < f → v < 2 ^ (64 - 7 * k) → (0 < k → 0 < v) → rdv f k u (var v ++ r) = .ok (u + v * 2 ^ (7 * k), r)
  | 0, _, _, _, _, _, h, _, _ => by omega
  | f + 1, k, u, v, r, hf, _, hv, h0 => by
    by_cases hs : v < 128
    · rw [var_small hs, List.singleton_append, rdv]
      have e : (UInt8.ofNat v).toNat = v := by simp [UInt8.toNat_ofNat']; omega
      rw [e]
      have h9 : ¬ (k = 9 ∧ 1 < v) := by
        rintro ⟨rfl, h⟩
        have : (2 : Nat) ^ (64 - 7 * 9) = 2 := by decide
        omega
      rw [if_neg h9, if_neg (by omega), if_neg (by omega)]
    · rw [var_big (by omega), List.cons_append, rdv]
      have e : (UInt8.ofNat (v % 128 + 128)).toNat = v % 128 + 128 := by simp [UInt8.toNat_ofNat']; omega
      rw [e]
      have hk : k ≠ 9 := by
        rintro rfl
        have : (2 : Nat) ^ (64 - 7 * 9) = 2 := by decide
        omega
      have hk8 : k < 9 := by omega
      rw [if_neg (by omega), if_pos (by omega)]
      have hv2 : v / 128 < 2 ^ (64 - 7 * (k + 1)) := by
        have : (2 : Nat) ^ (64 - 7 * k) = 2 ^ (64 - 7 * (k + 1)) * 128 := by
          rw [show 64 - 7 * k = 64 - 7 * (k + 1) + 7 by omega, Nat.pow_add]
        omega
      rw [rdv_full f (k + 1) _ (v / 128) r (by omega) (by omega) hv2 (fun _ => by omega)]
      have e2 : (v % 128 + 128) % 128 = v % 128 := by omega
      rw [e2, show 7 * (k + 1) = 7 * k + 7 by omega, Nat.pow_add]
      have : v / 128 * (2 ^ (7 * k) * 2 ^ 7) = 128 * (v / 128) * 2 ^ (7 * k) := by
        rw [Nat.mul_comm (2 ^ (7 * k)), ← Nat.mul_assoc, Nat.mul_comm (v / 128)]
      rw [this, Nat.add_assoc, ← Nat.add_mul, show v % 128 + 128 * (v / 128) = v by omega]
end Go.Proofs.YtofmbpmmgpbdbaaDoor.Wr
