/- The reference's digits of bits. -/
import Derived.Test.YtofmbpmmgpbdbaaDoorTxt1
namespace Go.Proofs.YtofmbpmmgpbdbaaDoor
open Go.RowKit Go.Maps Wr
set_option linter.unusedVariables false

theorem hex_cut (u : Nat) (h : u < 16) : (ByteArray.mk #[48, 49, 50, 51, 52, 53, 54, 55, 56, 57, 97, 98, 99, 100, 101, 102]).extract u (u + 1) = bytes [hexB u] := by
  have key : ∀ k : Fin 16, ((ByteArray.mk #[48, 49, 50, 51, 52, 53, 54, 55, 56, 57, 97, 98, 99, 100, 101, 102]).extract k.val (k.val + 1)).data.toList = [hexB k.val] := by decide +kernel
  have := key ⟨u, h⟩
  apply Go.WideShapes.bytes_inj
  simpa [bytes] using this
theorem hexPad_ln : ∀ k x, (hexPad k x).length = k
  | 0, x => rfl
  | k + 1, x => by simp [hexPad, hexPad_ln k]
def BLoop (x : Nat) (w : World) (gk : Nat) (s4 s5 : Value) (wr : World) : Prop :=
  ∃ (j e : Nat), s5 = .int .i64 ((e : Int) - 4) ∧ e + 4 * j = 64 ∧ s4 = .string (bytes (hexPad j (x / 2 ^ e))) ∧ j + gk = 16 ∧ Below w.heap.size w wr
set_option maxRecDepth 100000 in
set_option maxHeartbeats 1600000 in
theorem refHex_any (x : Nat) (hx : x < 18446744073709551616) (w : World) : Calls Tryd.prog 39 #[.int .u64 x] w fun e w' => e = .returned (.string (bytes (hexPad 16 x))) ∧ Below w.heap.size w w' := by
  have HX := Lib.hid hx
  clear hx
  have HL : Hid (BLoop x w 16 (.string ⟨#[]⟩) (.int .i64 60) w) := ⟨0, 64, rfl, rfl, rfl, rfl, Below.refl _ _⟩
  go_enter Tryd.func39, Tryd.ntmps39
  go_wp2
  go_loopg [4, 5] 16 (fun gk s4 s5 wr => BLoop x w gk s4 s5 wr)
  case atStart => exact HL.out
  case round =>
    clear HL
    obtain ⟨j, e, rfl, he, rfl, hjk, hb⟩ := hrel
    have HB := Lib.hid hb
    clear hb
    by_cases hgo : 0 < gk
    · obtain ⟨i, rfl⟩ : ∃ i, e = i + 4 := ⟨e - 4, by omega⟩
      have hv : (((i + 4 : Nat) : Int) - 4) = (i : Int) := by omega
      rw [hv]
      have hi0 : (0 : Int) ≤ (i : Int) := by omega
      have hi1 : (i : Int) ≤ 60 := by omega
      have hlen := hexPad_ln j (x / 2 ^ (i + 4))
      obtain ⟨p, hp⟩ : ∃ p, hexPad j (x / 2 ^ (i + 4)) = p := ⟨_, rfl⟩
      rw [hp] at hlen ⊢
      obtain ⟨r, hr⟩ : ∃ r, x / 2 ^ i % 16 = r := ⟨_, rfl⟩
      have hr16 : r < 16 := by omega
      have ht : ((x : Int) / 2 ^ i).tmod 16 = (r : Int) := by
        have e : ((x : Int) / 2 ^ i) = ((x / 2 ^ i : Nat) : Int) := by push_cast; rfl
        rw [e, ← hr]
        rfl
      have hw1 : IntKind.u64.wrap ((r : Int) + 1) = (r : Int) + 1 := by
        show ((r : Int) + 1) % 18446744073709551616 = _
        omega
      have hcut := hex_cut r hr16
      have HP := Lib.hid hp
      have HR := Lib.hid hr
      have hs1 : ¬ 9223372036854775807 < (bytes p).size + 1 := by rw [bytes_size, hlen]; omega
      have hs2 : ¬ 9223372036854775807 < (bytes p).size + (bytes [hexB r]).size := by rw [bytes_size, bytes_size, hlen, List.length_singleton]; omega
      have hr1 : (r : Int) ≤ 15 := by omega
      have hr0 : (0 : Int) ≤ (r : Int) := by omega
      have hr2 : (r : Int) ≤ (r : Int) + 1 := by omega
      have hr3 : (r : Int) + 1 ≤ 16 := by omega
      have hr4 : r + 1 ≤ 16 := by omega
      have hsz : (ByteArray.mk #[48, 49, 50, 51, 52, 53, 54, 55, 56, 57, 97, 98, 99, 100, 101, 102]).size = 16 := rfl
      clear hp hr
      go_wp2
      go_quiet (fail)
      go_wp2
      go_roundg (gk - 1)
      case measure => omega
      case rel =>
        refine ⟨j + 1, i, rfl, by omega, ?_, by omega, below_drewN HB.out _⟩
        rw [bytes_append, hexPad, HR.out, Nat.div_div_eq_div_mul, show 2 ^ i * 16 = 2 ^ (i + 4) by rw [Nat.pow_add], HP.out]
    · obtain rfl : gk = 0 := by omega
      obtain rfl : j = 16 := by omega
      obtain rfl : e = 0 := by omega
      have hx1 : x / 2 ^ 0 = x := by simp
      rw [hx1]
      go_wp2
      go_ret
      exact ⟨rfl, HB.out⟩
end Go.Proofs.YtofmbpmmgpbdbaaDoor
