/- strconv.ParseInt of digits, at 63 bits. -/
import Derived.Test.YtlailomhgipppaaGreatDoorKit
import Derived.Lib.IfaceNeq
namespace Go.Proofs.YtlailomhgipppaaGreatDoor
open Go.RowKit
set_option linter.unusedVariables false
set_option linter.unusedSimpArgs false

def uEnd (n : Nat) : Value := if n ≤ 9223372036854775807 then .tuple #[.int .u64 n, .nilIface] else .tuple #[.int .u64 9223372036854775807, .iface 88 (.int .i64 1)]
def ULoop (l : List UInt8) (W : World) (gk : Nat) (s12 s13 s101 : Value) (wr : World) : Prop :=
  ∃ (k : Nat) (a : Int), s12 = .bool false ∧ s13 = .int .u64 a ∧ s101 = .int .i64 k ∧ k + gk = l.length ∧ a = (dval 0 (l.take k) : Int) ∧ a ≤ 9223372036854775807 ∧ wr = W
set_option maxRecDepth 100000 in
set_option maxHeartbeats 1600000 in
theorem parseUint_any (t : ByteArray) (hd : t.data.toList.all isDig = true) (hne : t.size ≠ 0) (hmax : t.size ≤ 1000000) (w : World) :
    Calls Tryz.prog 56 #[.string t, .int .i64 10, .int .i64 63] w fun e w' => e = .returned (uEnd (dval 0 t.data.toList)) ∧ w' = Lib.bytesWorld w 5 t := by
  have hemp : t.toList.isEmpty = false := by
    rw [← decide_eq_emptyBytes]
    exact decide_eq_false (fun h => hne (by rw [h]; rfl))
  have hcv := Lib.run_convert_string_bytes (P := Tryz.prog) w 9 42 5 t (u := .string) Tryz.underlying9 Tryz.underlying42 Tryz.underlying5
  have hB : ∀ j, j < t.size → (Lib.bytesWorld w 5 t).cell? ⟨w.heap.size, j, none⟩ = some (.int .u8 (t.data.toList.getD j 0).toNat) := fun j hj => Lib.bytesWorld_cell w 5 t j hj
  obtain ⟨W1, hW1⟩ : ∃ W1, W1 = Lib.bytesWorld w 5 t := ⟨_, rfl⟩
  rw [← hW1] at hcv hB ⊢
  clear hW1
  obtain ⟨l, hl⟩ : ∃ l, l = t.data.toList := ⟨_, rfl⟩
  have hln : l.length = t.size := by rw [hl, Lib.size_eq]
  rw [← hl] at hB hd ⊢
  rw [← hln] at hB hcv hmax
  have HSZ : Hid (t.size = l.length) := hln.symm
  have HB := Lib.hid hB
  have HD := Lib.hid hd
  have hts : t.size = l.length := hln.symm
  clear hl hB hd hln
  have hmv : IntKind.u64.wrap (9223372036854775808 - 1) = 9223372036854775807 := by
    rw [IntKind.wrap_u64]; decide
  have HL : Hid (ULoop l W1 l.length (.bool false) (.int .u64 0) (.int .i64 0) W1) := ⟨0, 0, rfl, rfl, rfl, by omega, rfl, by omega, rfl⟩
  go_enter Tryz.func56, Tryz.ntmps56
  go_wp2
  go_loopg [12, 13, 101] l.length (fun gk s12 s13 s101 wr => ULoop l W1 gk s12 s13 s101 wr)
  case atStart => exact HL.out
  case round =>
    clear HL
    obtain ⟨k, a, rfl, rfl, rfl, hkk, ha, ha2, rfl⟩ := hrel
    have g0 : (0 : Int) ≤ (k : Int) := by omega
    have a0 : 0 ≤ a := by omega
    by_cases hlt : k < l.length
    · have g1 : (k : Int) < (l.length : Int) := by omega
      obtain ⟨c, hc⟩ : ∃ c, l[k]? = some c := ⟨_, List.getElem?_eq_getElem hlt⟩
      have hcc := HB.out k hlt
      rw [List.getD_eq_getElem?_getD, hc] at hcc
      change wr.cell? ⟨w.heap.size, k, none⟩ = some (.int .u8 (c.toNat : Int)) at hcc
      have hdig : 48 ≤ c.toNat ∧ c.toNat ≤ 57 := isDig_iff.1 (List.all_eq_true.1 HD.out c (List.mem_of_getElem? hc))
      have htk : l.take (k + 1) = l.take k ++ [c] := by rw [List.take_add_one, hc]; rfl
      have hn : a * 10 + ((c.toNat : Int) - 48) = (dval 0 (l.take (k + 1)) : Int) := by
        rw [htk, dval_app, dval_cons, dval_nil]
        omega
      obtain ⟨d, hdd⟩ : ∃ d : Int, d = (c.toNat : Int) := ⟨_, rfl⟩
      rw [← hdd] at hn hcc
      have d0 : 48 ≤ d := by omega
      have d1 : d ≤ 57 := by omega
      have hend : (dval 0 (l.take (k + 1)) : Int) ≤ (dval 0 l : Int) := by
        have := dval_le (l.drop (k + 1)) (dval 0 (l.take (k + 1)))
        rw [← dval_app, List.take_append_drop] at this
        omega
      have HN := Lib.hid hn
      have HE := Lib.hid hend
      have HAA := Lib.hid ha
      clear hc hdd hdig htk hn hend ha
      by_cases h1 : a < 1844674407370955162
      · by_cases h2 : a * 10 + (d - 48) ≤ 9223372036854775807
        · go_wp2
          go_roundg (gk - 1)
          case measure => omega
          case rel => exact ⟨k + 1, a * 10 + (d - 48), rfl, by go_num, by go_num, by omega, HN.out, h2, rfl⟩
        · have h3 : 9223372036854775807 < a * 10 + (d - 48) := by omega
          have HR : Hid (uEnd (dval 0 l) = .tuple #[.int .u64 9223372036854775807, .iface 88 (.int .i64 1)]) := by
            unfold uEnd
            have := HE.out
            have := HN.out
            exact if_neg (by omega)
          clear h2
          by_cases h4 : a * 10 + (d - 48) ≤ 18446744073709551615
          · go_wp2
            go_ret2
            exact ⟨by rw [HR.out]; rfl, rfl⟩
          · have hw : IntKind.u64.wrap (a * 10 + (d - 48)) = a * 10 + (d - 48) - 18446744073709551616 := by
              rw [IntKind.wrap_u64]; omega
            have h5 : a * 10 + (d - 48) - 18446744073709551616 < a * 10 := by omega
            clear h3 h4
            go_wp2
            go_ret2
            exact ⟨by rw [HR.out]; rfl, rfl⟩
      · have h3 : 1844674407370955162 ≤ a := by omega
        have HR : Hid (uEnd (dval 0 l) = .tuple #[.int .u64 9223372036854775807, .iface 88 (.int .i64 1)]) := by
          unfold uEnd
          have := HE.out
          have := HN.out
          exact if_neg (by omega)
        clear h1
        go_wp2
        go_ret2
        exact ⟨by rw [HR.out]; rfl, rfl⟩
    · obtain rfl : k = l.length := by omega
      rw [List.take_length] at ha
      have HR : Hid (uEnd (dval 0 l) = .tuple #[.int .u64 a, .nilIface]) := by
        unfold uEnd
        rw [if_pos (by omega), ha]
        rfl
      clear ha
      go_wp2
      go_ret2
      exact ⟨by rw [HR.out]; rfl, rfl⟩
end Go.Proofs.YtlailomhgipppaaGreatDoor
