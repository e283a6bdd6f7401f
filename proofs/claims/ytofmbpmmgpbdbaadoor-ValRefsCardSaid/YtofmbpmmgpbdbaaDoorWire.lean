/- Numbers and texts as bytes: what the reference and the program make. -/
import Derived.Test.YtofmbpmmgpbdbaaDoorFits
import Derived.Test.YtofmbpmmgpbdbaaDoorWirePlain
import Derived.Laws.IdiomStrings
import Derived.Laws.Concat
namespace Go.Proofs.YtofmbpmmgpbdbaaDoor
open Go.RowKit Wr

def bytes (l : List UInt8) : ByteArray := ⟨l.toArray⟩
theorem bytes_size (l : List UInt8) : (bytes l).size = l.length := by simp [bytes, ByteArray.size]
theorem bytes_append (a b : List UInt8) : bytes a ++ bytes b = bytes (a ++ b) := by
  apply Go.WideShapes.bytes_inj
  simp [bytes]
/-- 'string([]byte{..})' of one byte. -/
theorem run_one (x : Int) (hx : 0 ≤ x ∧ x < 256) (w : World) : (convert 29 9 (.slice (some ⟨w.heap.size, 0, none⟩) 1 1)).run Tryd.prog (w.alloc (.cells #[.int .u8 x] 5)) = .ok (.string (bytes [UInt8.ofNat x.toNat])) (w.alloc (.cells #[.int .u8 x] 5)) := by
  have h := run_convert_bytes_back (P := Tryd.prog) (w.alloc (.cells #[.int .u8 x] 5)) 29 9 5 ⟨w.heap.size, 0, none⟩ 1 [UInt8.ofNat x.toNat] Tryd.underlying29 Tryd.underlying5 Tryd.underlying9 (fun j hj => by
    have e : j = 0 := by simpa using hj
    subst e
    have e2 : ((UInt8.ofNat x.toNat).toNat : Int) = x := by simp [UInt8.toNat_ofNat']; omega
    have e3 : (Addr.add ⟨w.heap.size, 0, none⟩ 0) = ⟨w.heap.size, 0, none⟩ := by simp [Addr.add]
    rw [e3, List.getElem_cons_zero, e2]
    simp)
  exact h

theorem xor_max (x : Nat) (hx : x < 18446744073709551616) : bits .xor .u64 IntKind.u64.max (x : Int) = ((18446744073709551615 - x : Nat) : Int) := by
  show IntKind.u64.wrap (((BitVec.ofInt 64 IntKind.u64.max ^^^ BitVec.ofInt 64 (x : Int)).toNat : Nat) : Int) = _
  rw [show BitVec.ofInt 64 IntKind.u64.max = BitVec.allOnes 64 by decide, BitVec.allOnes_xor, BitVec.toNat_not]
  have : (BitVec.ofInt 64 (x : Int)).toNat = x := by rw [BitVec.ofInt_natCast, BitVec.toNat_ofNat]; omega
  rw [this]
  show ((2 ^ 64 - 1 - x : Nat) : Int) % 18446744073709551616 = _
  omega

theorem run_add_one {w : World} (pre : List UInt8) (c : UInt8) (h : (bytes pre).size + 1 ≤ 9223372036854775807) : (Op.stringOp .add (bytes pre) (bytes [c])).run Tryd.prog w = .ok (.string (bytes (pre ++ [c]))) w := by
  rw [run_string_add_sum (P := Tryd.prog) (w := w) (bytes pre) (bytes [c]) (by rw [bytes_size [c]]; exact h), bytes_append]

theorem no_over (pre : List UInt8) (c : UInt8) (h : (bytes pre).size + 1 ≤ 9223372036854775807) : ¬ 9223372036854775807 < (bytes pre).size + (bytes [c]).size := by rw [bytes_size [c]]; simp only [List.length_singleton]; omega
theorem num_next {pre : List UInt8} {u u0 : Nat} (h : var u0 = pre ++ var u) (hu : 128 ≤ u) : bytes pre ++ bytes [UInt8.ofNat (u % 128) + 128] = bytes (pre ++ [UInt8.ofNat (u % 128 + 128)]) ∧ var u0 = (pre ++ [UInt8.ofNat (u % 128 + 128)]) ++ var (u / 128) := by
  have e : UInt8.ofNat (u % 128) + 128 = UInt8.ofNat (u % 128 + 128) := by rw [UInt8.ofNat_add]; rfl
  rw [e, bytes_append]
  refine ⟨rfl, ?_⟩
  rw [h, var_big hu, List.append_assoc]; rfl
theorem num_last {pre : List UInt8} {u u0 : Nat} (h : var u0 = pre ++ var u) (hu : u < 128) : bytes pre ++ bytes [UInt8.ofNat u] = bytes (var u0) := by
  rw [bytes_append, h, var_small hu]
theorem wrap_div (u : Nat) (h : u < 18446744073709551616) : IntKind.u64.wrap ((u : Int) / 128) = ((u / 128 : Nat) : Int) := by show ((u : Int) / 128) % 18446744073709551616 = _; omega

def NumLoop (N : Nat) (W : World) (u0 : Nat) (k : Nat) (s3 s4 : Value) (w : World) : Prop :=
  ∃ (pre : List UInt8) (u : Nat), s4 = .string (bytes pre) ∧ s3 = .int .u64 (u : Nat) ∧ u < 18446744073709551616 ∧ u = k ∧ var u0 = pre ++ var u ∧ Below N W w

set_option maxRecDepth 100000 in
set_option maxHeartbeats 1600000 in
theorem refNum_any (n : Int) (w : World) (h1 : -9223372036854775808 ≤ n) (h2 : n ≤ 9223372036854775807) : Calls Tryd.prog 48 #[.int .i64 n] w fun e w' => e = .returned (.string (bytes (num n))) ∧ Below w.heap.size w w' := by
  obtain ⟨u0, hu0⟩ : ∃ u0, u0 = zig n := ⟨_, rfl⟩
  have hu : Hid (u0 < 18446744073709551616) := by show _ < _; rw [hu0]; exact zig_lt h1 h2
  have HU := Lib.hid hu0
  have H1 := Lib.hid h1
  have H2 := Lib.hid h2
  clear h1 h2
  by_cases hn : n < 0
  · have hz : bits .xor .u64 IntKind.u64.max (IntKind.u64.wrap (IntKind.u64.wrap n * 2)) = (u0 : Int) := by
      have e : IntKind.u64.wrap (IntKind.u64.wrap n * 2) = ((18446744073709551616 + 2 * n).toNat : Int) := by have := H1.out; show (n % 18446744073709551616 * 2) % 18446744073709551616 = _; omega
      rw [e, xor_max _ (by have := H1.out; omega), hu0]; unfold zig; rw [if_neg (by omega)]; have := H1.out; omega
    clear hu0
    go_enter Tryd.func48, Tryd.ntmps48
    go_wp2
    clear hz
    have HL : Hid (NumLoop w.heap.size w u0 u0 (.int .u64 u0) (.string ⟨#[]⟩) w) := ⟨[], u0, rfl, rfl, hu.out, rfl, rfl, Below.refl _ _⟩
    go_loopg [3, 4] u0 (fun k s3 s4 wr => NumLoop w.heap.size w u0 k s3 s4 wr)
    case atStart => exact HL.out
    case round =>
      clear HL
      obtain ⟨pre, u, rfl, rfl, hu2, rfl, hv, hb⟩ := hrel
      have HB := Lib.hid hb
      have HU2 := Lib.hid hu2
      have HV := Lib.hid hv
      have hpl : Hid ((bytes pre).size + 1 ≤ 9223372036854775807) := by
        have a := var_len10 hu.out
        rw [hv, List.length_append] at a
        show (bytes pre).size + 1 ≤ _
        rw [bytes_size]; omega
      clear hb hv hu2
      have hu4 : (0 : Int) ≤ (u : Int) := by omega
      have hno := fun (c : UInt8) => no_over pre c hpl.out
      by_cases hlt : 128 ≤ u
      · have hone := fun W => run_one ((u : Int) % 128 + 128) (by omega) W
        go_wp2
        have HN := Lib.hid (num_next HV.out hlt)
        go_roundg (u / 128)
        case measure => omega
        case rel => exact ⟨_, u / 128, congrArg Value.string HN.out.1, congrArg (Value.int .u64) (wrap_div u HU2.out), by have := HU2.out; omega, rfl, HN.out.2, HB.out.alloc HB.out.size _⟩
      · have hone := fun W => run_one (u : Int) (by omega) W
        go_wp2
        have HN := Lib.hid (num_last HV.out (by omega))
        go_ret
        exact ⟨ret_str (by rw [HN.out, HU.out]; rfl), HB.out.alloc HB.out.size _⟩
  · have hz : IntKind.u64.wrap (IntKind.u64.wrap n * 2) = (u0 : Int) := by have := H2.out; rw [hu0]; unfold zig; rw [if_pos (by omega)]; show (n % 18446744073709551616 * 2) % 18446744073709551616 = _; omega
    clear hu0
    go_enter Tryd.func48, Tryd.ntmps48
    go_wp2
    clear hz
    have HL : Hid (NumLoop w.heap.size w u0 u0 (.int .u64 u0) (.string ⟨#[]⟩) w) := ⟨[], u0, rfl, rfl, hu.out, rfl, rfl, Below.refl _ _⟩
    go_loopg [3, 4] u0 (fun k s3 s4 wr => NumLoop w.heap.size w u0 k s3 s4 wr)
    case atStart => exact HL.out
    case round =>
      clear HL
      obtain ⟨pre, u, rfl, rfl, hu2, rfl, hv, hb⟩ := hrel
      have HB := Lib.hid hb
      have HU2 := Lib.hid hu2
      have HV := Lib.hid hv
      have hpl : Hid ((bytes pre).size + 1 ≤ 9223372036854775807) := by
        have a := var_len10 hu.out
        rw [hv, List.length_append] at a
        show (bytes pre).size + 1 ≤ _
        rw [bytes_size]; omega
      clear hb hv hu2
      have hu4 : (0 : Int) ≤ (u : Int) := by omega
      have hno := fun (c : UInt8) => no_over pre c hpl.out
      by_cases hlt : 128 ≤ u
      · have hone := fun W => run_one ((u : Int) % 128 + 128) (by omega) W
        go_wp2
        have HN := Lib.hid (num_next HV.out hlt)
        go_roundg (u / 128)
        case measure => omega
        case rel => exact ⟨_, u / 128, congrArg Value.string HN.out.1, congrArg (Value.int .u64) (wrap_div u HU2.out), by have := HU2.out; omega, rfl, HN.out.2, HB.out.alloc HB.out.size _⟩
      · have hone := fun W => run_one (u : Int) (by omega) W
        go_wp2
        have HN := Lib.hid (num_last HV.out (by omega))
        go_ret
        exact ⟨ret_str (by rw [HN.out, HU.out]; rfl), HB.out.alloc HB.out.size _⟩
end Go.Proofs.YtofmbpmmgpbdbaaDoor
