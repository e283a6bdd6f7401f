/- Numbers and texts as bytes: what the program makes. -/
import Derived.Test.YtofmbpmmgpbdbaaDoorWire
import Derived.Test.YtofmbpmmgpbdbaaDoorMemZ
namespace Go.Proofs.YtofmbpmmgpbdbaaDoor
open Go.RowKit Go.Maps Wr
set_option linter.unusedVariables false

theorem infoB : (Tryd.prog.info? 5).map (fun i => (i.zero, i.size, i.bytes)) = some (some (.int .u8 0), 1, 1) := by kernel_rfl
def bvals (l : List UInt8) : List Value := l.map fun b => Value.int .u8 (b.toNat : Int)
theorem bvals_length (l : List UInt8) : (bvals l).length = l.length := by simp [bvals]
theorem bvals_append (a b : List UInt8) : bvals (a ++ b) = bvals a ++ bvals b := by simp [bvals]
theorem bvals_one (l : List UInt8) : ∀ u ∈ bvals l, u.oneCell' = true := by
  intro u hu
  obtain ⟨b, _, rfl⟩ := List.mem_map.1 hu
  rfl

/-- A row of bytes, all of it in blocks from N on. -/
def ByteRow (w : World) (N : Nat) (v : Value) (l : List UInt8) : Prop := Row w 5 v (bvals l) ∧ ∀ k, v.ownBlock = some k → N ≤ k
theorem ByteRow.app {wr w1 : World} {N g cap : Nat} {v : Value} {pre : List UInt8} {x : Int} {c : UInt8} {o : Obj} (h : ByteRow wr N v pre) (hN : N ≤ wr.heap.size) (hr1 : Row w1 5 (.slice (some ⟨g, 0, none⟩) ((bvals pre).length + 1) cap) (bvals pre ++ [.int .u8 x])) (hg : (wr.alloc o).grownBy w1 v.ownBlock)
    (hl : v.ownBlock = some g ∨ g = (wr.alloc o).heap.size) (hx : x = (c.toNat : Int)) : ByteRow w1 N (.slice (some ⟨g, 0, none⟩) ((bvals pre).length + 1) cap) (pre ++ [c]) ∧ Below N wr w1 := by
  subst hx
  refine ⟨⟨?_, fun k hk => ?_⟩, ?_⟩
  · rw [bvals_append]; exact hr1
  · simp only [Value.ownBlock, Option.some.injEq] at hk
    subst hk
    rcases hl with e | e
    · exact h.2 _ e
    · simp at e; omega
  · have hc : Chg v.ownBlock.toList wr w1 := ((Chg.refl _ wr).alloc o).grown hg (fun k hk => .inl (by simp [hk]))
    exact hc.below hN (fun k hk => h.2 k (by simpa using hk))
def RowEnd (W : World) (N : Nat) (l : List UInt8) (e : Ending) (w : World) : Prop := ∃ v, e = .returned v ∧ ByteRow w N v l ∧ Below N W w

theorem zig_xor (n : Int) (h1 : -9223372036854775808 ≤ n) (h2 : n ≤ 9223372036854775807) : bits .xor .u64 (IntKind.u64.wrap (wrap64 (n * 2))) (IntKind.u64.wrap (n / 9223372036854775808)) = (zig n : Int) := by
  have e1 : IntKind.u64.wrap (wrap64 (n * 2)) = n * 2 % 18446744073709551616 := by
    unfold wrap64; show _ % 18446744073709551616 = _; omega
  have e2 : IntKind.u64.wrap (n / 9223372036854775808) = (n / 9223372036854775808) % 18446744073709551616 := rfl
  unfold zig
  by_cases hn : 0 ≤ n
  · have a : n * 2 % 18446744073709551616 = ((2 * n).toNat : Int) := by omega
    have b : (n / 9223372036854775808) % 18446744073709551616 = ((0 : Nat) : Int) := by omega
    rw [if_pos hn, e1, e2, a, b]
    show IntKind.u64.wrap (((BitVec.ofInt 64 ((2 * n).toNat : Int) ^^^ BitVec.ofInt 64 ((0 : Nat) : Int)).toNat : Nat) : Int) = _
    rw [BitVec.ofInt_natCast, BitVec.ofInt_natCast, BitVec.xor_zero, BitVec.toNat_ofNat]
    show (((2 * n).toNat % 2 ^ 64 : Nat) : Int) % 18446744073709551616 = _
    omega
  · have a : n * 2 % 18446744073709551616 = ((18446744073709551616 + 2 * n).toNat : Int) := by omega
    have b : (n / 9223372036854775808) % 18446744073709551616 = IntKind.u64.max := by
      show _ = (18446744073709551615 : Int); omega
    rw [if_neg hn, e1, e2, a, b]
    have c := xor_max (18446744073709551616 + 2 * n).toNat (by omega)
    have d : ∀ x y : Int, bits .xor .u64 x y = bits .xor .u64 y x := fun x y => by
      show IntKind.u64.wrap (((BitVec.ofInt 64 x ^^^ BitVec.ofInt 64 y).toNat : Nat) : Int) = IntKind.u64.wrap (((BitVec.ofInt 64 y ^^^ BitVec.ofInt 64 x).toNat : Nat) : Int)
      rw [BitVec.xor_comm]
    rw [d, c]; omega
theorem or_128 (u : Nat) : bits .or .u8 (IntKind.u8.wrap (u : Int)) 128 = ((u % 128 + 128 : Nat) : Int) := by
  show IntKind.u8.wrap (((BitVec.ofInt 8 (IntKind.u8.wrap (u : Int)) ||| BitVec.ofInt 8 128).toNat : Nat) : Int) = _
  have e : IntKind.u8.wrap (u : Int) = ((u % 256 : Nat) : Int) := by rw [IntKind.wrap_u8]; omega
  rw [e, BitVec.ofInt_natCast, BitVec.toNat_or, BitVec.toNat_ofNat, show (BitVec.ofInt 8 128).toNat = 128 by decide, IntKind.wrap_u8]
  have key : ∀ x : Nat, x < 256 → (x ||| 128) = x % 128 + 128 := by decide +kernel
  rw [key _ (by omega)]
  omega

def WNumLoop (N : Nat) (W : World) (u0 : Nat) (k : Nat) (s3 s4 : Value) (w : World) : Prop :=
  ∃ (pre : List UInt8) (u : Nat), ByteRow w N s3 pre ∧ s4 = .int .u64 (u : Nat) ∧ u < 18446744073709551616 ∧ u = k ∧ var u0 = pre ++ var u ∧ Below N W w

set_option maxRecDepth 100000 in
set_option maxHeartbeats 1600000 in
theorem wireNum_any (n : Int) (w : World) (h1 : -9223372036854775808 ≤ n) (h2 : n ≤ 9223372036854775807) : Calls Tryd.prog 53 #[.int .i64 n] w (RowEnd w w.heap.size (num n)) := by
  obtain ⟨u0, hu0⟩ : ∃ u0, u0 = zig n := ⟨_, rfl⟩
  have hu : Hid (u0 < 18446744073709551616) := by show _ < _; rw [hu0]; exact zig_lt h1 h2
  have HU := Lib.hid hu0
  have H1 := Lib.hid h1
  have H2 := Lib.hid h2
  have hz : bits .xor .u64 (IntKind.u64.wrap (wrap64 (n * 2))) (IntKind.u64.wrap (n / 9223372036854775808)) = (u0 : Int) := by rw [hu0]; exact zig_xor n h1 h2
  clear h1 h2 hu0
  go_enter Tryd.func53, Tryd.ntmps53
  go_wp2
  clear hz
  have HL : Hid (WNumLoop w.heap.size w u0 u0 (.slice none 0 0) (.int .u64 u0) w) := ⟨[], u0, ⟨Row.nil _ _, fun k h => by simp [Value.ownBlock] at h⟩, rfl, hu.out, rfl, rfl, Below.refl _ _⟩
  go_loopg [3, 4] u0 (fun k s3 s4 wr => WNumLoop w.heap.size w u0 k s3 s4 wr)
  case atStart => exact HL.out
  case round =>
    clear HL
    obtain ⟨pre, u, hrow, rfl, hu2, rfl, hv, hb⟩ := hrel
    have HB := Lib.hid hb
    have HV := Lib.hid hv
    have HR := Lib.hid hrow
    have HU2 := Lib.hid hu2
    have hpl : Hid (pre.length + 1 ≤ 11) := by
      have a := var_len10 hu.out
      rw [hv, List.length_append] at a
      show pre.length + 1 ≤ 11
      omega
    clear hb hv hu2 hrow
    have hu4 : (0 : Int) ≤ (u : Int) := by omega
    by_cases hlt : 128 ≤ u
    · have hor := or_128 u
      go_wp2_with (at_builtin; (refine wpList_app _ rfl _ _ 29 rfl 5 (.int .u8 0) 1 Tryd.underlying29 infoB rfl u3 (bvals pre) rfl (World.ownsRow.alloc HR.out.1 _) ⟨wr.heap.size, 0, none⟩ 1 1 [.int .u8 _] rfl (by omega) rfl (cell_one_new _ _ _) (ints_oneCell .u8 [_]) (by rw [bvals_length]; have := hpl.out; omega) (by omega) ?_; intro g cap w1 hr1 hg1 hl1))
      obtain ⟨n1, n2⟩ := HR.out.app (c := UInt8.ofNat (u % 128 + 128)) HB.out.size hr1 hg1 hl1 (by have h := or_128 u; rw [IntKind.wrap_u8] at h; rw [h]; simp [UInt8.toNat_ofNat']; omega)
      go_roundg (u / 128)
      case measure => omega
      case rel => exact ⟨_, u / 128, n1, by go_num, by have := HU2.out; omega, rfl, by rw [HV.out, var_big hlt, List.append_assoc]; rfl, HB.out.trans n2⟩
    · go_wp2_with (at_builtin; (refine wpList_app _ rfl _ _ 29 rfl 5 (.int .u8 0) 1 Tryd.underlying29 infoB rfl u3 (bvals pre) rfl (World.ownsRow.alloc HR.out.1 _) ⟨wr.heap.size, 0, none⟩ 1 1 [.int .u8 _] rfl (by omega) rfl (cell_one_new _ _ _) (ints_oneCell .u8 [_]) (by rw [bvals_length]; have := hpl.out; omega) (by omega) ?_; intro g cap w1 hr1 hg1 hl1))
      obtain ⟨n1, n2⟩ := HR.out.app (c := UInt8.ofNat u) HB.out.size hr1 hg1 hl1 (by simp [UInt8.toNat_ofNat']; try omega)
      go_ret
      refine ⟨_, rfl, ?_, HB.out.trans n2⟩
      have e : num n = pre ++ [UInt8.ofNat u] := by unfold num; rw [← HU.out, HV.out, var_small (by omega)]
      rw [e]; exact n1
end Go.Proofs.YtofmbpmmgpbdbaaDoor
