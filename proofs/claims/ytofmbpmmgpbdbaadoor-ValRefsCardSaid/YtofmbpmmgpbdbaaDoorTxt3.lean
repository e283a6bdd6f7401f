/- The reference's quote. -/
import Derived.Test.YtofmbpmmgpbdbaaDoorTxt2
namespace Go.Proofs.YtofmbpmmgpbdbaaDoor
open Go.RowKit Go.Maps Wr
set_option linter.unusedVariables false

def RqLoop (w : World) (s : ByteArray) (gk : Nat) (s4 s5 : Value) (wr : World) : Prop :=
  ∃ i : Nat, s5 = .int .i64 i ∧ i + gk = s.size ∧ s4 = .string (bytes (34 :: (s.data.toList.take i).flatMap qb)) ∧ Below w.heap.size w wr
set_option maxRecDepth 100000 in
set_option maxHeartbeats 1600000 in
theorem refQuote_any (s : ByteArray) (w : World) (hs : s.size ≤ 1000000) : Calls Tryd.prog 41 #[.string s] w fun e w' => e = .returned (.string (bytes (quoteB s.data.toList))) ∧ Below w.heap.size w w' := by
  have HL : Hid (RqLoop w s s.size (.string ⟨#[34]⟩) (.int .i64 0) w) := ⟨0, rfl, by omega, rfl, Below.refl _ _⟩
  go_enter Tryd.func41, Tryd.ntmps41
  go_wp2
  go_loopg [4, 5, 6] s.size (fun gk s4 s5 _ wr => RqLoop w s gk s4 s5 wr)
  case atStart => exact HL.out
  case round =>
    clear HL
    obtain ⟨i, rfl, hik, rfl, hb⟩ := hrel
    have HB := Lib.hid hb
    clear hb
    obtain ⟨p, hp⟩ : ∃ p, p = 34 :: (s.data.toList.take i).flatMap qb := ⟨_, rfl⟩
    have hpl : p.length ≤ 4000001 := by
      have := flat_len (s.data.toList.take i)
      have e : (s.data.toList.take i).length ≤ 1000000 := by simp; omega
      rw [hp, List.length_cons]; omega
    rw [← hp]
    have HP := Lib.hid hp
    have HPL := Lib.hid hpl
    clear hp hpl
    have g0 : (0 : Int) ≤ (i : Int) := by omega
    by_cases hlt : i < s.size
    · have g1 : (i : Int) < (s.size : Int) := by omega
      have HN := Lib.hid (q_next hlt)
      have hc0 : (0 : Int) ≤ (s[i].toNat : Int) := by omega
      have hc2 : (s[i].toNat : Int) < 256 := by have := UInt8.toNat_lt s[i]; omega
      by_cases h34 : (s[i].toNat : Int) = 34
      · have hq := qb_34 s[i] h34
        have HQ := Lib.hid hq
        have hcv := conv_one wr 34 34 rfl
        have hs1 : ¬ 9223372036854775807 < (bytes p).size + 1 := by rw [bytes_size]; have := HPL.out; omega
        have hs2 : ¬ 9223372036854775807 < (bytes p).size + 1 + (bytes [34]).size := by rw [bytes_size, bytes_size]; have := HPL.out; simp; omega
        clear hq
        go_wp2
        go_roundg (gk - 1)
        case measure => omega
        case rel => exact ⟨i + 1, by go_num, by omega, by rw [HN.out, ← HP.out, HQ.out, ← bytes_append]; exact congrArg Value.string (ByteArray.append_assoc (a := bytes p) (b := ⟨#[92]⟩) (c := bytes [34])), HB.out.trans ((Below.refl _ _).alloc HB.out.size _)⟩
      · by_cases h92 : (s[i].toNat : Int) = 92
        · have hq := qb_92 s[i] h92
          have HQ := Lib.hid hq
          have hcv := conv_one wr 92 92 rfl
          have hs1 : ¬ 9223372036854775807 < (bytes p).size + 1 := by rw [bytes_size]; have := HPL.out; omega
          have hs2 : ¬ 9223372036854775807 < (bytes p).size + 1 + (bytes [92]).size := by rw [bytes_size, bytes_size]; have := HPL.out; simp; omega
          clear hq
          go_wp2
          go_roundg (gk - 1)
          case measure => omega
          case rel => exact ⟨i + 1, by go_num, by omega, by rw [HN.out, ← HP.out, HQ.out, ← bytes_append]; exact congrArg Value.string (ByteArray.append_assoc (a := bytes p) (b := ⟨#[92]⟩) (c := bytes [92])), HB.out.trans ((Below.refl _ _).alloc HB.out.size _)⟩
        · have b1 : ((s[i].toNat : Int) == 34) = false := by simpa using h34
          have b2 : ((s[i].toNat : Int) == 92) = false := by simpa using h92
          by_cases hh : (s[i].toNat : Int) < 32 ∨ 126 < (s[i].toNat : Int)
          · have hq := qb_hex s[i] h34 h92 hh
            obtain ⟨a, ha⟩ : ∃ a, s[i].toNat / 16 = a := ⟨_, rfl⟩
            obtain ⟨b, hb⟩ : ∃ b, s[i].toNat % 16 = b := ⟨_, rfl⟩
            have ha16 : a < 16 := by omega
            have hb16 : b < 16 := by omega
            rw [ha, hb] at hq
            have HQ := Lib.hid hq
            have hd1 : (s[i].toNat : Int).tdiv 16 = (a : Int) := by rw [← ha]; rfl
            have hd2 : (s[i].toNat : Int) / 16 = (a : Int) := by rw [← ha]; rfl
            have hm1 : (s[i].toNat : Int).tmod 16 = (b : Int) := by rw [← hb]; rfl
            have hm2 : (s[i].toNat : Int) % 16 = (b : Int) := by rw [← hb]; rfl
            have hw1 : IntKind.u8.wrap ((a : Int) + 1) = (a : Int) + 1 := by rw [IntKind.wrap_u8]; omega
            have hw2 : IntKind.u8.wrap ((b : Int) + 1) = (b : Int) + 1 := by rw [IntKind.wrap_u8]; omega
            have hw3 : IntKind.u8.wrap (a : Int) = (a : Int) := by rw [IntKind.wrap_u8]; omega
            have hw4 : IntKind.u8.wrap (b : Int) = (b : Int) := by rw [IntKind.wrap_u8]; omega
            have hca := hex_cut a ha16
            have hcb := hex_cut b hb16
            have a0 : (0 : Int) ≤ (a : Int) := by omega
            have a1 : (a : Int) ≤ 15 := by omega
            have a3 : (a : Int) + 1 ≤ 16 := by omega
            have a4 : a + 1 ≤ 16 := by omega
            have a2 : (a : Int) ≤ (a : Int) + 1 := by omega
            have b2' : (b : Int) ≤ (b : Int) + 1 := by omega
            have b0 : (0 : Int) ≤ (b : Int) := by omega
            have b01 : (b : Int) ≤ 15 := by omega
            have b3 : (b : Int) + 1 ≤ 16 := by omega
            have b4 : b + 1 ≤ 16 := by omega
            have hsz : (ByteArray.mk #[48, 49, 50, 51, 52, 53, 54, 55, 56, 57, 97, 98, 99, 100, 101, 102]).size = 16 := rfl
            have hs1 : ¬ 9223372036854775807 < (bytes p).size + 2 := by rw [bytes_size]; have := HPL.out; omega
            have hs2 : ¬ 9223372036854775807 < (bytes p).size + 2 + (bytes [hexB a]).size := by rw [bytes_size, bytes_size]; have := HPL.out; simp; omega
            have hs3 : ¬ 9223372036854775807 < (bytes p).size + 2 + (bytes [hexB a]).size + (bytes [hexB b]).size := by rw [bytes_size, bytes_size, bytes_size]; have := HPL.out; simp; omega
            have HJ : Hid (bytes (p ++ [92, 120, hexB a, hexB b]) = bytes p ++ ⟨#[92, 120]⟩ ++ bytes [hexB a] ++ bytes [hexB b]) := by
              show _ = _
              rw [show (⟨#[92, 120]⟩ : ByteArray) = bytes [92, 120] from rfl, bytes_append, bytes_append, bytes_append]
              simp
            clear hq ha hb
            rcases hh with h5 | h5
            · go_wp2
              go_quiet (fail)
              go_wp2
              go_roundg (gk - 1)
              case measure => omega
              case rel => exact ⟨i + 1, by go_num, by omega, by rw [HN.out, ← HP.out, HQ.out, HJ.out], below_drewN HB.out _⟩
            · have h6 : ¬ (s[i].toNat : Int) < 32 := by omega
              go_wp2
              go_quiet (fail)
              go_wp2
              go_roundg (gk - 1)
              case measure => omega
              case rel => exact ⟨i + 1, by go_num, by omega, by rw [HN.out, ← HP.out, HQ.out, HJ.out], below_drewN HB.out _⟩
          · have hq := qb_plain s[i] h34 h92 (by omega) (by omega)
            have HQ := Lib.hid hq
            have hcv := conv_one wr s[i] (s[i].toNat : Int) rfl
            have h5 : ¬ (s[i].toNat : Int) < 32 := by omega
            have h6 : ¬ 126 < (s[i].toNat : Int) := by omega
            have hs2 : ¬ 9223372036854775807 < (bytes p).size + (bytes [s[i]]).size := by rw [bytes_size, bytes_size]; have := HPL.out; simp; omega
            clear hq hh
            go_wp2
            go_roundg (gk - 1)
            case measure => omega
            case rel => exact ⟨i + 1, by go_num, by omega, by rw [HN.out, ← HP.out, HQ.out, ← bytes_append], HB.out.trans ((Below.refl _ _).alloc HB.out.size _)⟩
    · obtain rfl : i = s.size := by omega
      have HZ : Hid (quoteB s.data.toList = p ++ [34]) := by show _ = _; rw [HP.out, List.take_of_length_le (by simp)]; rfl
      have hs1 : ¬ 9223372036854775807 < (bytes p).size + 1 := by rw [bytes_size]; have := HPL.out; omega
      go_wp2
      go_ret
      refine ⟨?_, HB.out⟩
      rw [HZ.out, ← bytes_append]
      rfl
end Go.Proofs.YtofmbpmmgpbdbaaDoor
