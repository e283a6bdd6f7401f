/- Texts of the proof, in build order: Same, Fits, Right, Wire, Wire2, Wire3, EncPlain, RdVal, RdFun, Own, Put, Step, Put3, Put4, ValFits. -/
import Derived.Test.YtcpgbekcbaelpaaGreatDoorF12
import Derived.Test.YtcpgbekcbaelpaaGreatDoorF10
import Derived.WideShapes
import Derived.Test.YtcpgbekcbaelpaaGreatDoorF01
import Derived.Laws.IdiomStrings
import Derived.Laws.Concat
import Derived.Lib.AppendStr
import Derived.Outline
import Derived.Deep.AppendLies
import Derived.Deep.RegionLaw
import Derived.Deep.RegionHeld3
set_option linter.unusedVariables false
set_option linter.unusedSimpArgs false
set_option linter.unusedSectionVars false
/- The reference's Same. -/
namespace Go.Proofs.YtcpgbekcbaelpaaGreatDoor
open Go.RowKit
set_option linter.unusedVariables false

namespace VT
mutual
def sz : VT → Nat
  | node _ _ _ l => 1 + szs l
def szs : List VT → Nat
  | [] => 0
  | t :: l => sz t + szs l
end
theorem sz_get : ∀ {l : List VT} {i : Nat} {t : VT}, l[i]? = some t → t.sz ≤ szs l
  | [], _, _, h => by cases h
  | t :: l, 0, u, h => by rw [List.getElem?_cons_zero] at h; cases h; unfold szs; omega
  | t :: l, i + 1, u, h => by rw [List.getElem?_cons_succ] at h; have := sz_get h; unfold szs; omega
theorem sz_kid {t u : VT} {i : Nat} (h : t.kids[i]? = some u) : u.sz < t.sz := by
  cases t with
  | node k n s l =>
    have h1 : u.sz ≤ szs l := sz_get h
    have h2 : (node k n s l).sz = 1 + szs l := by rw [sz]
    omega
mutual
def same : VT → VT → Bool
  | node k n s l, node k' n' s' l' => decide (k = k') && decide (n = n') && decide (s = s') && sames l l'
def sames : List VT → List VT → Bool
  | [], [] => true
  | t :: l, t' :: l' => same t t' && sames l l'
  | _, _ => false
end
end VT

end Go.Proofs.YtcpgbekcbaelpaaGreatDoor
/- What is in form of a value's top: bits of a text, fits. -/
namespace Go.Proofs.YtcpgbekcbaelpaaGreatDoor
open Go.RowKit
set_option linter.unusedVariables false

theorem below_drewN {B : Nat} {a w : World} (h : Below B a w) (n : Nat) : Below B a (w.drewN n) := ⟨h.os, h.tape, h.output, h.size, h.block⟩
theorem qs {P : Program} {f : FuncId} {args : Array Value} {w : World} {n : Nat} {v : Value}
    (h : Calls P f args (w.drewN n) fun e w' => e = .returned v ∧ w.drewN n = w') : Calls P f args (w.drewN n) fun e w'' => e = .returned v ∧ ∃ m, w'' = w.drewN m :=
  h.mono fun _ _ ⟨he, hm⟩ => ⟨he, n, hm.symm⟩
def bitsOf (l : List UInt8) : Nat := l.foldl (fun n c => (n * 256 + c.toNat) % 18446744073709551616) 0
theorem bitsOf_snoc (l : List UInt8) (c : UInt8) : bitsOf (l ++ [c]) = (bitsOf l * 256 + c.toNat) % 18446744073709551616 := by simp [bitsOf]
theorem bitsOf_take (s : ByteArray) (k : Nat) (h : k < s.size) : bitsOf (s.data.toList.take (k + 1)) = (bitsOf (s.data.toList.take k) * 256 + s[k].toNat) % 18446744073709551616 := by
  have e : s.data.toList.take (k + 1) = s.data.toList.take k ++ [s[k]] := by rw [List.take_succ_eq_append_getElem (by simpa using h)]; rfl
  rw [e, bitsOf_snoc]
theorem step_or (x : Nat) (c : UInt8) : bits .or .u64 (IntKind.u64.wrap ((x : Int) * 256)) (c.toNat : Int) = (((x * 256 + c.toNat) % 18446744073709551616 : Nat) : Int) := by
  have hc : c.toNat < 256 := UInt8.toNat_lt c
  have e : IntKind.u64.wrap ((x : Int) * 256) = ((x * 256 % 18446744073709551616 : Nat) : Int) := by show (x : Int) * 256 % 18446744073709551616 = _; omega
  rw [e, u64_or_nat _ _ (by omega) (by omega), nat_join 8 (x * 256 % 18446744073709551616) c.toNat (by omega) (by omega)]
  omega

def BitsLoop (s : ByteArray) (k : Nat) (s1 s2 : Value) : Prop := ∃ i : Nat, s2 = .int .i64 i ∧ i + k = s.size ∧ s1 = .int .u64 (bitsOf (s.data.toList.take i))
theorem float_any (s : ByteArray) (w : World) (hs : s.size ≤ maxLen) : Calls Tryz.prog 165 #[.string s] w fun e w' => e = .returned (.int .u64 (bitsOf s.data.toList)) ∧ w = w' := by
  unfold maxLen at hs
  go_enter Tryz.func165, Tryz.ntmps165
  go_wp2
  go_loopg [3, 7] s.size (fun k s1 s2 w2 => w2 = w ∧ BitsLoop s k s1 s2)
  case atStart => exact ⟨rfl, 0, rfl, by omega, rfl⟩
  case round =>
    obtain ⟨rfl, i, rfl, hik, rfl⟩ := hrel
    by_cases hlt : i < s.size
    · have HS := Lib.hid (bitsOf_take s i hlt)
      have HA := Lib.hid (step_or (bitsOf (s.data.toList.take i)) s[i])
      have hc1 : (0 : Int) ≤ (s[i].toNat : Int) := by omega
      have hc2 : (s[i].toNat : Int) < 256 := by have := UInt8.toNat_lt s[i]; omega
      generalize bitsOf (s.data.toList.take i) = x at HS HA ⊢
      go_wp2
      go_roundg (gk - 1)
      case measure => omega
      case rel => exact ⟨rfl, i + 1, by go_num, by omega, by rw [HS.out, ← HA.out]⟩
    · obtain rfl : i = s.size := by omega
      have e : s.data.toList.take s.size = s.data.toList := List.take_of_length_le (by simp)
      rw [e]
      go_wp2
      go_ret
      exact ⟨rfl, rfl⟩

def emptyB (s : ByteArray) : Bool := decide (s.size = 0)
theorem empty1 (s : ByteArray) : s.toList.isEmpty = emptyB s := by
  unfold emptyB; rw [ByteArray.toList_eq]; cases h : s.data.toList <;> simp [ByteArray.size, ← Array.length_toList, h]
theorem empty2 (s : ByteArray) : (s.toList = []) = (emptyB s = true) := by
  unfold emptyB; rw [ByteArray.toList_eq]; cases h : s.data.toList <;> simp [ByteArray.size, ← Array.length_toList, h]
def sameBits (s : ByteArray) : Bool := decide (canon (bitsOf s.data.toList) = bitsOf s.data.toList)
def fitsB (k n : Int) (s : ByteArray) (m : Nat) : Bool :=
  if k = 0 then decide (n = wr n) && emptyB s && decide (m = 0)
  else if k = 1 then decide (n = 0) && decide (s.size = 8) && decide (m = 0) && sameBits s
  else if k = 2 then decide (n = 0) && decide (s.size ≤ 4096) && decide (m = 0)
  else if k = 3 then decide (0 ≤ n) && decide (n ≤ 255) && emptyB s && decide (m ≤ 8)
  else if k = 4 then decide (n = 0) && emptyB s && decide (2 ≤ m) && decide (m ≤ 8)
  else if k = 5 then decide (1 ≤ n) && decide (n ≤ 1099511627776) && emptyB s && decide (m = 0)
  else if k = 6 then decide (n = 0) && emptyB s && decide (m = 0)
  else false

section
variable (n : Int) (s : ByteArray) (ao : Option Addr) (m cap : Nat) (w : World)
end
end Go.Proofs.YtcpgbekcbaelpaaGreatDoor
/- The reference's right: a value in form, all the way down. -/
namespace Go.Proofs.YtcpgbekcbaelpaaGreatDoor
open Go.RowKit
set_option linter.unusedVariables false

namespace VT
mutual
def right : VT → Int → Bool
  | node k n s l, d => decide (d ≤ 200) && fitsB k n s l.length && rights l (d + 1)
def rights : List VT → Int → Bool
  | [], _ => true
  | t :: l, d => right t d && rights l d
end
theorem right_node (k n : Int) (s : ByteArray) (l : List VT) (d : Int) : (node k n s l).right d = (decide (d ≤ 200) && fitsB k n s l.length && rights l (d + 1)) := by rw [right]
theorem rights_nil (d : Int) : rights [] d = true := by rw [rights]
theorem rights_cons (t : VT) (l : List VT) (d : Int) : rights (t :: l) d = (right t d && rights l d) := by rw [rights]
theorem drop_kid {l : List VT} {i : Nat} {t : VT} (h : l[i]? = some t) : l.drop i = t :: l.drop (i + 1) := by
  have hi := (List.getElem?_eq_some_iff.1 h).1
  rw [List.drop_eq_getElem_cons hi]; congr 1; exact Option.some.inj ((List.getElem?_eq_getElem hi).symm.trans h)
end VT

end Go.Proofs.YtcpgbekcbaelpaaGreatDoor
/- Numbers and texts as bytes: what the reference and the program make. -/
namespace Go.Proofs.YtcpgbekcbaelpaaGreatDoor
open Go.RowKit Wr

def bytes (l : List UInt8) : ByteArray := ⟨l.toArray⟩
theorem bytes_size (l : List UInt8) : (bytes l).size = l.length := by simp [bytes, ByteArray.size]
theorem xor_max (x : Nat) (hx : x < 18446744073709551616) : bits .xor .u64 IntKind.u64.max (x : Int) = ((18446744073709551615 - x : Nat) : Int) := by
  show IntKind.u64.wrap (((BitVec.ofInt 64 IntKind.u64.max ^^^ BitVec.ofInt 64 (x : Int)).toNat : Nat) : Int) = _
  rw [show BitVec.ofInt 64 IntKind.u64.max = BitVec.allOnes 64 by decide, BitVec.allOnes_xor, BitVec.toNat_not]
  have : (BitVec.ofInt 64 (x : Int)).toNat = x := by rw [BitVec.ofInt_natCast, BitVec.toNat_ofNat]; omega
  rw [this]
  show ((2 ^ 64 - 1 - x : Nat) : Int) % 18446744073709551616 = _
  omega

end Go.Proofs.YtcpgbekcbaelpaaGreatDoor
/- Numbers and texts as bytes: what the program makes. -/
namespace Go.Proofs.YtcpgbekcbaelpaaGreatDoor
open Go.RowKit Go.Maps Wr
set_option linter.unusedVariables false

theorem infoB : (Tryz.prog.info? 5).map (fun i => (i.zero, i.size, i.bytes)) = some (some (.int .u8 0), 1, 1) := by kernel_rfl
def bvals (l : List UInt8) : List Value := l.map fun b => Value.int .u8 (b.toNat : Int)
theorem bvals_length (l : List UInt8) : (bvals l).length = l.length := by simp [bvals]
theorem bvals_append (a b : List UInt8) : bvals (a ++ b) = bvals a ++ bvals b := by simp [bvals]
theorem bvals_one (l : List UInt8) : ∀ u ∈ bvals l, u.oneCell' = true := by
  intro u hu
  obtain ⟨b, _, rfl⟩ := List.mem_map.1 hu
  rfl

def ByteRow (w : World) (N : Nat) (v : Value) (l : List UInt8) : Prop := Row w 5 v (bvals l) ∧ ∀ k, v.ownBlock = some k → N ≤ k
theorem ByteRow.app {wr w1 : World} {N g cap : Nat} {v : Value} {pre : List UInt8} {x : Int} {c : UInt8} {o : Obj} (h : ByteRow wr N v pre) (hN : N ≤ wr.heap.size) (hr1 : Row w1 5 (.slice (some ⟨g, 0, none⟩) ((bvals pre).length + 1) cap) (bvals pre ++ [.int .u8 x])) (hg : (wr.alloc o).grownBy w1 v.ownBlock)
    (hl : v.ownBlock = some g ∨ g = (wr.alloc o).heap.size) (hx : x = (c.toNat : Int)) : ByteRow w1 N (.slice (some ⟨g, 0, none⟩) ((bvals pre).length + 1) cap) (pre ++ [c]) ∧ Below N wr w1 := by
  subst hx
  refine ⟨⟨?_, fun k hk => ?_⟩, ?_⟩
  · rw [bvals_append]; exact hr1
  · simp only [Value.ownBlock, Option.some.injEq] at hk
    subst hk
    rcases hl with e | e
    · exact h.2 _ e
    · simp at e; omega
  · have hc : Chg v.ownBlock.toList wr w1 := ((Chg.refl _ wr).alloc o).grown hg (fun k hk => .inl (by simp [hk]))
    exact hc.below hN (fun k hk => h.2 k (by simpa using hk))
def RowEnd (W : World) (N : Nat) (l : List UInt8) (e : Ending) (w : World) : Prop := ∃ v, e = .returned v ∧ ByteRow w N v l ∧ Below N W w

theorem zig_xor (n : Int) (h1 : -9223372036854775808 ≤ n) (h2 : n ≤ 9223372036854775807) : bits .xor .u64 (IntKind.u64.wrap (wrap64 (n * 2))) (IntKind.u64.wrap (n / 9223372036854775808)) = (zig n : Int) := by
  have e1 : IntKind.u64.wrap (wrap64 (n * 2)) = n * 2 % 18446744073709551616 := by
    unfold wrap64; show _ % 18446744073709551616 = _; omega
  have e2 : IntKind.u64.wrap (n / 9223372036854775808) = (n / 9223372036854775808) % 18446744073709551616 := rfl
  unfold zig
  by_cases hn : 0 ≤ n
  · have a : n * 2 % 18446744073709551616 = ((2 * n).toNat : Int) := by omega
    have b : (n / 9223372036854775808) % 18446744073709551616 = ((0 : Nat) : Int) := by omega
    rw [if_pos hn, e1, e2, a, b]
    show IntKind.u64.wrap (((BitVec.ofInt 64 ((2 * n).toNat : Int) ^^^ BitVec.ofInt 64 ((0 : Nat) : Int)).toNat : Nat) : Int) = _
    rw [BitVec.ofInt_natCast, BitVec.ofInt_natCast, BitVec.xor_zero, BitVec.toNat_ofNat]
    show (((2 * n).toNat % 2 ^ 64 : Nat) : Int) % 18446744073709551616 = _
    omega
  · have a : n * 2 % 18446744073709551616 = ((18446744073709551616 + 2 * n).toNat : Int) := by omega
    have b : (n / 9223372036854775808) % 18446744073709551616 = IntKind.u64.max := by
      show _ = (18446744073709551615 : Int); omega
    rw [if_neg hn, e1, e2, a, b]
    have c := xor_max (18446744073709551616 + 2 * n).toNat (by omega)
    have d : ∀ x y : Int, bits .xor .u64 x y = bits .xor .u64 y x := fun x y => by
      show IntKind.u64.wrap (((BitVec.ofInt 64 x ^^^ BitVec.ofInt 64 y).toNat : Nat) : Int) = IntKind.u64.wrap (((BitVec.ofInt 64 y ^^^ BitVec.ofInt 64 x).toNat : Nat) : Int)
      rw [BitVec.xor_comm]
    rw [d, c]; omega
theorem or_128 (u : Nat) : bits .or .u8 (IntKind.u8.wrap (u : Int)) 128 = ((u % 128 + 128 : Nat) : Int) := by
  show IntKind.u8.wrap (((BitVec.ofInt 8 (IntKind.u8.wrap (u : Int)) ||| BitVec.ofInt 8 128).toNat : Nat) : Int) = _
  have e : IntKind.u8.wrap (u : Int) = ((u % 256 : Nat) : Int) := by rw [IntKind.wrap_u8]; omega
  rw [e, BitVec.ofInt_natCast, BitVec.toNat_or, BitVec.toNat_ofNat, show (BitVec.ofInt 8 128).toNat = 128 by decide, IntKind.wrap_u8]
  have key : ∀ x : Nat, x < 256 → (x ||| 128) = x % 128 + 128 := by decide +kernel
  rw [key _ (by omega)]
  omega

def WNumLoop (N : Nat) (W : World) (u0 : Nat) (k : Nat) (s3 s4 : Value) (w : World) : Prop :=
  ∃ (pre : List UInt8) (u : Nat), ByteRow w N s3 pre ∧ s4 = .int .u64 (u : Nat) ∧ u < 18446744073709551616 ∧ u = k ∧ var u0 = pre ++ var u ∧ Below N W w

set_option maxRecDepth 100000 in
set_option maxHeartbeats 1600000 in
theorem wireNum_any (n : Int) (w : World) (h1 : -9223372036854775808 ≤ n) (h2 : n ≤ 9223372036854775807) : Calls Tryz.prog 90 #[.int .i64 n] w (RowEnd w w.heap.size (num n)) := by
  obtain ⟨u0, hu0⟩ : ∃ u0, u0 = zig n := ⟨_, rfl⟩
  have hu : Hid (u0 < 18446744073709551616) := by show _ < _; rw [hu0]; exact zig_lt h1 h2
  have HU := Lib.hid hu0
  have H1 := Lib.hid h1
  have H2 := Lib.hid h2
  have hz : bits .xor .u64 (IntKind.u64.wrap (wrap64 (n * 2))) (IntKind.u64.wrap (n / 9223372036854775808)) = (u0 : Int) := by rw [hu0]; exact zig_xor n h1 h2
  clear h1 h2 hu0
  go_enter Tryz.func90, Tryz.ntmps90
  go_wp2
  clear hz
  have HL : Hid (WNumLoop w.heap.size w u0 u0 (.slice none 0 0) (.int .u64 u0) w) := ⟨[], u0, ⟨Row.nil _ _, fun k h => by simp [Value.ownBlock] at h⟩, rfl, hu.out, rfl, rfl, Below.refl _ _⟩
  go_loopg [3, 4] u0 (fun k s3 s4 wr => WNumLoop w.heap.size w u0 k s3 s4 wr)
  case atStart => exact HL.out
  case round =>
    clear HL
    obtain ⟨pre, u, hrow, rfl, hu2, rfl, hv, hb⟩ := hrel
    have HB := Lib.hid hb
    have HV := Lib.hid hv
    have HR := Lib.hid hrow
    have HU2 := Lib.hid hu2
    have hpl : Hid (pre.length + 1 ≤ 11) := by
      have a := var_len10 hu.out
      rw [hv, List.length_append] at a
      show pre.length + 1 ≤ 11
      omega
    clear hb hv hu2 hrow
    have hu4 : (0 : Int) ≤ (u : Int) := by omega
    by_cases hlt : 128 ≤ u
    · have hor := or_128 u
      go_wp2_with (at_builtin; (refine wpList_app _ rfl _ _ 44 rfl 5 (.int .u8 0) 1 Tryz.underlying44 infoB rfl u3 (bvals pre) rfl (World.ownsRow.alloc HR.out.1 _) ⟨wr.heap.size, 0, none⟩ 1 1 [.int .u8 _] rfl (by omega) rfl (cell_one_new _ _ _) (ints_oneCell .u8 [_]) (by rw [bvals_length]; have := hpl.out; omega) (by omega) ?_; intro g cap w1 hr1 hg1 hl1))
      obtain ⟨n1, n2⟩ := HR.out.app (c := UInt8.ofNat (u % 128 + 128)) HB.out.size hr1 hg1 hl1 (by have h := or_128 u; rw [IntKind.wrap_u8] at h; rw [h]; simp [UInt8.toNat_ofNat']; omega)
      go_roundg (u / 128)
      case measure => omega
      case rel => exact ⟨_, u / 128, n1, by go_num, by have := HU2.out; omega, rfl, by rw [HV.out, var_big hlt, List.append_assoc]; rfl, HB.out.trans n2⟩
    · go_wp2_with (at_builtin; (refine wpList_app _ rfl _ _ 44 rfl 5 (.int .u8 0) 1 Tryz.underlying44 infoB rfl u3 (bvals pre) rfl (World.ownsRow.alloc HR.out.1 _) ⟨wr.heap.size, 0, none⟩ 1 1 [.int .u8 _] rfl (by omega) rfl (cell_one_new _ _ _) (ints_oneCell .u8 [_]) (by rw [bvals_length]; have := hpl.out; omega) (by omega) ?_; intro g cap w1 hr1 hg1 hl1))
      obtain ⟨n1, n2⟩ := HR.out.app (c := UInt8.ofNat u) HB.out.size hr1 hg1 hl1 (by simp [UInt8.toNat_ofNat']; try omega)
      go_ret
      refine ⟨_, rfl, ?_, HB.out.trans n2⟩
      have e : num n = pre ++ [UInt8.ofNat u] := by unfold num; rw [← HU.out, HV.out, var_small (by omega)]
      rw [e]; exact n1
end Go.Proofs.YtcpgbekcbaelpaaGreatDoor
/- Texts as bytes. -/
namespace Go.Proofs.YtcpgbekcbaelpaaGreatDoor
open Go.RowKit Go.Maps Wr

theorem ByteRow.owns {w : World} {N : Nat} {v : Value} {l : List UInt8} (h : ByteRow w N v l) : w.ownsRow N 5 1 v l.length (bvals l) := by
  obtain ⟨h1, h2⟩ := h
  have hl := bvals_length l
  unfold Row at h1
  rw [hl] at h1
  refine ⟨h1.1, ?_⟩
  rcases h1.2 with hn | ⟨g, cap, cur, rfl, _, rest⟩
  · exact .inl hn
  · exact .inr ⟨g, cap, cur, rfl, h2 g rfl, rest⟩
theorem ByteRow.of {w : World} {N : Nat} {v : Value} {l : List UInt8} {n : Nat} (h : w.ownsRow N 5 1 v n (bvals l)) (hn : n = l.length) : ByteRow w N v l := by
  subst hn
  have hl := bvals_length l
  refine ⟨?_, fun k hk => ?_⟩
  · unfold Row
    rw [hl]
    refine ⟨h.1, ?_⟩
    rcases h.2 with hn | ⟨g, cap, cur, rfl, _, rest⟩
    · exact .inl hn
    · exact .inr ⟨g, cap, cur, rfl, Nat.zero_le _, rest⟩
  · rcases h.2 with ⟨rfl, _⟩ | ⟨g, cap, cur, rfl, hb, rest⟩
    · simp [Value.ownBlock] at hk
    · simp only [Value.ownBlock, Option.some.injEq] at hk; omega
theorem ByteRow.lt {w : World} {N : Nat} {v : Value} {l : List UInt8} (h : ByteRow w N v l) {k : Nat} (hk : v.ownBlock = some k) : k < w.heap.size := h.1.lt hk
theorem ByteRow.below {w w' : World} {N : Nat} {v : Value} {l : List UInt8} (h : ByteRow w N v l) (hb : Below w.heap.size w w') : ByteRow w' N v l :=
  ⟨h.1.chg (F := []) ⟨hb.os, hb.tape, hb.output, hb.size, fun i hi _ => hb.block i hi⟩ (fun _ _ => by simp), h.2⟩ 
theorem below_grown {w w' : World} {N : Nat} {v : Value} (hN : N ≤ w.heap.size) (hg : w.grownBy w' v.ownBlock) (hv : ∀ k, v.ownBlock = some k → N ≤ k) : Below N w w' := by
  have hc : Chg v.ownBlock.toList w w' := (Chg.refl _ w).grown hg (fun k hk => .inl (by simp [hk]))
  exact hc.below hN (fun k hk => hv k (by simpa using hk))
theorem strCells_bvals (s : ByteArray) : Lib.strCells s = bvals s.data.toList := by
  unfold Lib.strCells bvals; rfl

set_option maxRecDepth 100000 in
theorem wireStr_any (s : ByteArray) (w : World) (hs : s.size ≤ 1000000000) : Calls Tryz.prog 92 #[.string s] w (RowEnd w w.heap.size (str s.data.toList)) := by
  have hl : s.data.toList.length = s.size := by simp
  have hn := Lib.hid (wireNum_any (s.size : Int) w (by omega) (by omega))
  have hnl := Lib.hid (num_len (n := (s.size : Int)) (by omega) (by omega))
  have HL := Lib.hid hl
  have hs2 : (s.size : Int) ≤ 1000000000 := by omega
  obtain ⟨i0, hi, hz0, hz1, hz2⟩ := info_parts infoB
  clear hl
  go_enter Tryz.func92, Tryz.ntmps92
  go_wp2_with
    (first
     | ((go_at_call 90; refine hn.out.mono ?_; rintro e w5 ⟨v5, rfl, hr5, hb5⟩; have HR := Lib.hid hr5; have HB := Lib.hid hb5; clear hr5 hb5))
     | (at_builtin; (refine Lib.wpList_append_own_string w5 rfl _ _ 44 9 rfl w.heap.size 5 i0 Tryz.underlying44 Tryz.underlying9 hi hz0 hz1 hz2 v5 (num (s.size : Int)).length (bvals (num (s.size : Int))) rfl HR.out.owns s rfl (by have := hnl.out; unfold maxLen; omega) (by have := hnl.out; omega) HB.out.size ?_; intro v6 w6 hr6 hg6 _)))
  go_ret
  refine ⟨v6, rfl, ByteRow.of (n := (num (s.size : Int)).length + s.size) ?_ ?_, HB.out.trans (below_grown HB.out.size hg6 HR.out.2)⟩
  · rw [strCells_bvals, ← bvals_append] at hr6
    unfold str; rw [HL.out]; exact hr6
  · unfold str; rw [List.length_append, HL.out]
end Go.Proofs.YtcpgbekcbaelpaaGreatDoor
/- A value's bytes, in plain words. -/
namespace Go.Proofs.YtcpgbekcbaelpaaGreatDoor
open Wr

def topOf (k n : Int) (s : ByteArray) (m : Nat) : List UInt8 :=
  if k = 0 ∨ k = 5 then num n else if k = 1 ∨ k = 2 then str s.data.toList else if k = 3 then num n ++ num m else if k = 4 then num m else []
namespace VT
mutual
def enc : VT → List UInt8
  | node k n s l => Wr.num k ++ topOf k n s l.length ++ encs l
def encs : List VT → List UInt8
  | [] => []
  | t :: l => enc t ++ encs l
end
mutual
def put (L : Nat) : VT → List UInt8 → List UInt8
  | node k n s l, b => if L < b.length then b else puts L l (b ++ Wr.num k ++ topOf k n s l.length)
def puts (L : Nat) : List VT → List UInt8 → List UInt8
  | [], b => b
  | t :: l, b => puts L l (put L t b)
end
theorem put_node (L : Nat) (k n : Int) (s : ByteArray) (l : List VT) (b : List UInt8) : put L (node k n s l) b = if L < b.length then b else puts L l (b ++ Wr.num k ++ topOf k n s l.length) := by rw [put]
theorem puts_nil (L : Nat) (b : List UInt8) : puts L [] b = b := by rw [puts]
theorem puts_cons (L : Nat) (t : VT) (l : List VT) (b : List UInt8) : puts L (t :: l) b = puts L l (put L t b) := by rw [puts]
mutual
theorem put_or (L : Nat) : ∀ (t : VT) (b : List UInt8), put L t b = b ++ enc t ∨ (L < (put L t b).length ∧ L < (b ++ enc t).length)
  | node k n s l, b => by
    rw [put, enc]
    split
    · rename_i h
      right
      exact ⟨h, by rw [List.length_append]; omega⟩
    · have := puts_or L l (b ++ Wr.num k ++ topOf k n s l.length)
      have e : b ++ Wr.num k ++ topOf k n s l.length ++ encs l = b ++ (Wr.num k ++ topOf k n s l.length ++ encs l) := by simp [List.append_assoc]
      rwa [e] at this
theorem puts_or (L : Nat) : ∀ (l : List VT) (b : List UInt8), puts L l b = b ++ encs l ∨ (L < (puts L l b).length ∧ L < (b ++ encs l).length)
  | [], b => by left; rw [puts, encs, List.append_nil]
  | t :: l, b => by
    rw [puts, encs]
    rcases put_or L t b with h | ⟨h1, h2⟩
    · have := puts_or L l (put L t b)
      rw [h] at this ⊢
      rwa [List.append_assoc] at this
    · have h3 : ∀ (l : List VT) (b : List UInt8), L < b.length → L < (puts L l b).length := fun l => by
        induction l with
        | nil => intro b h; rw [puts]; exact h
        | cons t l ih =>
          intro b h
          rw [puts]
          apply ih
          cases t with
          | node k n s l => rw [put, if_pos h]; exact h
      right
      refine ⟨h3 l _ h1, ?_⟩
      rw [← List.append_assoc, List.length_append]
      omega
end
theorem put_fits {L : Nat} {t : VT} (h : (enc t).length ≤ L) : put L t [] = enc t := by
  rcases put_or L t [] with e | ⟨_, h2⟩
  · rw [e]; rfl
  · rw [List.nil_append] at h2; omega
theorem right_parts {k n : Int} {s : ByteArray} {l : List VT} {d : Int} (h : (node k n s l).right d = true) : fitsB k n s l.length = true ∧ rights l (d + 1) = true ∧ d ≤ 200 := by
  rw [right_node] at h
  simp only [Bool.and_eq_true, decide_eq_true_eq] at h
  exact ⟨h.1.2, h.2, h.1.1⟩
theorem rights_get : ∀ {l : List VT} {i : Nat} {t : VT} {d : Int}, rights l d = true → l[i]? = some t → t.right d = true
  | [], _, _, _, _, h => by cases h
  | t :: l, 0, u, d, h, hi => by rw [List.getElem?_cons_zero] at hi; cases hi; rw [rights_cons, Bool.and_eq_true] at h; exact h.1
  | t :: l, i + 1, u, d, h, hi => by rw [List.getElem?_cons_succ] at hi; rw [rights_cons, Bool.and_eq_true] at h; exact rights_get h.2 hi
end VT
theorem fits_parts {k n : Int} {s : ByteArray} {m : Nat} (h : fitsB k n s m = true) : 0 ≤ k ∧ k ≤ 6 ∧ m ≤ 8 ∧ s.size ≤ 4096 ∧ -4611686018427387904 ≤ n ∧ n ≤ 4611686018427387903 := by
  have hE : emptyB s = true → s.size = 0 := fun h => by simpa [emptyB] using h
  have h1 := wr_ge n
  have h2 := wr_le n
  unfold fitsB at h
  split at h
  · simp only [Bool.and_eq_true, decide_eq_true_eq] at h
    have := hE h.1.2
    omega
  · split at h
    · simp only [Bool.and_eq_true, decide_eq_true_eq] at h; omega
    · split at h
      · simp only [Bool.and_eq_true, decide_eq_true_eq] at h; omega
      · split at h
        · simp only [Bool.and_eq_true, decide_eq_true_eq] at h
          have := hE h.1.2; omega
        · split at h
          · simp only [Bool.and_eq_true, decide_eq_true_eq] at h
            have := hE h.1.1.2; omega
          · split at h
            · simp only [Bool.and_eq_true, decide_eq_true_eq] at h
              have := hE h.1.2; omega
            · split at h
              · simp only [Bool.and_eq_true, decide_eq_true_eq] at h
                have := hE h.1.2; omega
              · cases h
theorem str_len {s : List UInt8} (h : s.length ≤ 1000000000) : (str s).length ≤ s.length + 10 := by
  unfold str; rw [List.length_append]; have := num_len (n := (s.length : Int)) (by omega) (by omega); omega
theorem topOf_len {k n : Int} {s : ByteArray} {m : Nat} (h : fitsB k n s m = true) : (topOf k n s m).length ≤ 4106 := by
  obtain ⟨h1, h2, h3, h4, h5, h6⟩ := fits_parts h
  have a := num_len (n := n) (by omega) (by omega)
  have b := num_len (n := (m : Int)) (by omega) (by omega)
  have c := str_len (s := s.data.toList) (by simp; omega)
  have e : s.data.toList.length = s.size := by simp
  unfold topOf
  split
  · omega
  · split
    · omega
    · split
      · rw [List.length_append]; omega
      · split
        · omega
        · simp
end Go.Proofs.YtcpgbekcbaelpaaGreatDoor
/- Values that are read, in plain words: what is read is what was written. -/
namespace Go.Proofs.YtcpgbekcbaelpaaGreatDoor
open Wr

def rdNum (lo hi : Int) (b : List UInt8) : Except Int (Int × List UInt8) :=
  match rdv 10 0 0 b with
  | .error e => .error e
  | .ok (u, r) => if zag u < lo ∨ hi < zag u then .error 4 else .ok (zag u, r)
def rdStr (hi : Int) (b : List UInt8) : Except Int (List UInt8 × List UInt8) :=
  match rdNum 0 hi b with
  | .error e => .error e
  | .ok (n, r) => if (r.length : Int) < n then .error 3 else .ok (r.take n.toNat, r.drop n.toNat)
def rdKids (g : List UInt8 → Except Int (VT × List UInt8)) : Nat → List UInt8 → Except Int (List VT × List UInt8)
  | 0, b => .ok ([], b)
  | m + 1, b =>
    match g b with
    | .error e => .error e
    | .ok (t, b1) =>
      match rdKids g m b1 with
      | .error e => .error e
      | .ok (l, r) => .ok (t :: l, r)
def rdVal : Nat → List UInt8 → Except Int (VT × List UInt8)
  | 0, _ => .error 2
  | f + 1, b =>
    match rdNum 0 6 b with
    | .error e => .error e
    | .ok (k, b1) =>
      if k = 0 then
        match rdNum (-4611686018427387904) 4611686018427387903 b1 with
        | .error e => .error e
        | .ok (n, r) => .ok (.node 0 n ⟨#[]⟩ [], r)
      else if k = 1 ∨ k = 2 then
        match rdStr 4096 b1 with
        | .error e => .error e
        | .ok (s, r) => .ok (.node k 0 (bytes s) [], r)
      else if k = 3 then
        match rdNum 0 255 b1 with
        | .error e => .error e
        | .ok (n, b2) =>
          match rdNum 0 8 b2 with
          | .error e => .error e
          | .ok (m, b3) =>
            match rdKids (rdVal f) m.toNat b3 with
            | .error e => .error e
            | .ok (l, r) => .ok (.node 3 n ⟨#[]⟩ l, r)
      else if k = 4 then
        match rdNum 2 8 b1 with
        | .error e => .error e
        | .ok (m, b3) =>
          match rdKids (rdVal f) m.toNat b3 with
          | .error e => .error e
          | .ok (l, r) => .ok (.node 4 0 ⟨#[]⟩ l, r)
      else if k = 5 then
        match rdNum 1 1099511627776 b1 with
        | .error e => .error e
        | .ok (n, r) => .ok (.node 5 n ⟨#[]⟩ [], r)
      else .ok (.node 6 0 ⟨#[]⟩ [], b1)

theorem rdNum_sound {lo hi n : Int} {b r : List UInt8} (h : rdNum lo hi b = .ok (n, r)) : b = num n ++ r ∧ lo ≤ n ∧ n ≤ hi := by
  unfold rdNum at h
  split at h
  · cases h
  · rename_i u r' hu
    split at h
    · cases h
    · rename_i hr
      simp only [Except.ok.injEq, Prod.mk.injEq] at h
      obtain ⟨rfl, rfl⟩ := h
      obtain ⟨v, h1, h2, _⟩ := rdv_sound 10 0 0 b u r' hu
      have e : u = v := by simpa using h1
      subst e
      refine ⟨?_, by omega, by omega⟩
      unfold num
      rw [zig_zag]
      exact h2
theorem rdNum_full {lo hi n : Int} (r : List UInt8) (h1 : lo ≤ n) (h2 : n ≤ hi) (h3 : -9223372036854775808 ≤ n) (h4 : n ≤ 9223372036854775807) : rdNum lo hi (num n ++ r) = .ok (n, r) := by
  have h := rdv_full 10 0 0 (zig n) r rfl (by omega) (by have := zig_lt h3 h4; simpa using this) (fun h => by omega)
  unfold rdNum num
  rw [h]
  simp only [Nat.mul_zero, Nat.pow_zero, Nat.mul_one, Nat.zero_add, zag_zig]
  rw [if_neg (by omega)]
theorem rdStr_full {hi : Int} (s r : List UInt8) (h : (s.length : Int) ≤ hi) (h2 : (s.length : Int) ≤ 1000000000) : rdStr hi (str s ++ r) = .ok (s, r) := by
  have := rdNum_full (lo := 0) (hi := hi) (n := (s.length : Int)) (s ++ r) (by omega) h (by omega) (by omega)
  unfold rdStr str
  rw [List.append_assoc, this]
  simp only
  rw [if_neg (by rw [List.length_append]; omega), Int.toNat_natCast, List.take_left, List.drop_left]
theorem bytes_list (s : ByteArray) : bytes s.data.toList = s := by
  apply Go.WideShapes.bytes_inj; simp [bytes]
theorem rdKids_full {g : List UInt8 → Except Int (VT × List UInt8)} {d : Int} (hg : ∀ (t : VT) (r : List UInt8), t.right d = true → g (t.enc ++ r) = .ok (t, r)) : ∀ (l : List VT) (r : List UInt8), VT.rights l d = true → rdKids g l.length (VT.encs l ++ r) = .ok (l, r)
  | [], r, _ => by rw [VT.encs]; rfl
  | t :: l, r, h => by
    rw [VT.rights_cons, Bool.and_eq_true] at h
    rw [VT.encs, List.length_cons, rdKids, List.append_assoc, hg t _ h.1]
    simp only
    rw [rdKids_full hg l r h.2]
theorem empty_eq {s : ByteArray} (h : emptyB s = true) : s = ⟨#[]⟩ := by
  have h0 : s.size = 0 := by simpa [emptyB] using h
  apply Go.WideShapes.bytes_inj
  exact List.eq_nil_of_length_eq_zero (by simpa using h0)
theorem wr_self {n : Int} (h : n = wr n) : -4611686018427387904 ≤ n ∧ n ≤ 4611686018427387903 := ⟨by rw [h]; exact wr_ge n, by rw [h]; exact wr_le n⟩
theorem rdVal_full : ∀ (f : Nat) (t : VT) (d : Int) (r : List UInt8), t.right d = true → (f : Int) + d = 201 → rdVal f (t.enc ++ r) = .ok (t, r)
  | 0, t, d, r, h, hd => by
    obtain ⟨k, n, s, l⟩ := t
    have := (VT.right_parts h).2.2
    omega
  | f + 1, t, d, r, h, hd => by
    obtain ⟨k, n, s, l⟩ := t
    obtain ⟨h1, h2, h3⟩ := VT.right_parts h
    obtain ⟨k0, k6, _⟩ := fits_parts h1
    have hk := fun (b : List UInt8) => rdNum_full (lo := 0) (hi := 6) (n := k) b k0 k6 (by omega) (by omega)
    rw [rdVal, VT.enc, List.append_assoc, List.append_assoc, hk]
    simp only
    have hc : k = 0 ∨ k = 1 ∨ k = 2 ∨ k = 3 ∨ k = 4 ∨ k = 5 ∨ k = 6 := by omega
    rcases hc with rfl | rfl | rfl | rfl | rfl | rfl | rfl
    · simp only [fitsB, if_true, Bool.and_eq_true, decide_eq_true_eq] at h1
      have hl := List.length_eq_zero_iff.1 h1.2
      have hs := empty_eq h1.1.2
      obtain ⟨w1, w2⟩ := wr_self h1.1.1
      subst hl hs
      rw [if_pos rfl, VT.encs, topOf, if_pos (.inl rfl), List.nil_append, rdNum_full r w1 w2 (by omega) (by omega)]
    · simp [fitsB] at h1
      have hl := h1.1.2
      subst hl
      obtain ⟨⟨⟨rfl, h8⟩, _⟩, _⟩ := h1
      rw [if_neg (by omega), if_pos (.inl rfl), VT.encs, topOf, if_neg (by omega), if_pos (.inl rfl), List.nil_append, rdStr_full _ r (by simp; omega) (by simp; omega)]
      simp only [bytes_list]
    · simp [fitsB] at h1
      obtain ⟨⟨rfl, h8⟩, rfl⟩ := h1
      rw [if_neg (by omega), if_pos (.inr rfl), VT.encs, topOf, if_neg (by omega), if_pos (.inr rfl), List.nil_append, rdStr_full _ r (by simp; omega) (by simp; omega)]
      simp only [bytes_list]
    · simp [fitsB] at h1
      obtain ⟨⟨⟨n0, n1⟩, hs⟩, hm⟩ := h1
      have hs := empty_eq hs
      subst hs
      rw [if_neg (by omega), if_neg (by omega), if_pos rfl, topOf, if_neg (by omega), if_neg (by omega), if_pos rfl, List.append_assoc, rdNum_full _ n0 n1 (by omega) (by omega)]
      simp only
      rw [rdNum_full _ (by omega) (by omega) (by omega) (by omega)]
      simp only
      rw [Int.toNat_natCast, rdKids_full (d := d + 1) (fun t r ht => rdVal_full f t (d + 1) r ht (by omega)) l r h2]
    · simp [fitsB] at h1
      obtain ⟨⟨⟨rfl, hs⟩, m2⟩, m8⟩ := h1
      have hs := empty_eq hs
      subst hs
      rw [if_neg (by omega), if_neg (by omega), if_neg (by omega), if_pos rfl, topOf, if_neg (by omega), if_neg (by omega), if_neg (by omega), if_pos rfl, rdNum_full _ (by omega) (by omega) (by omega) (by omega)]
      simp only
      rw [Int.toNat_natCast, rdKids_full (d := d + 1) (fun t r ht => rdVal_full f t (d + 1) r ht (by omega)) l r h2]
    · simp [fitsB] at h1
      obtain ⟨⟨⟨n0, n1⟩, hs⟩, rfl⟩ := h1
      have hs := empty_eq hs
      subst hs
      rw [if_neg (by omega), if_neg (by omega), if_neg (by omega), if_neg (by omega), if_pos rfl, VT.encs, topOf, if_pos (.inr rfl), List.nil_append, rdNum_full r n0 n1 (by omega) (by omega)]
    · simp [fitsB] at h1
      obtain ⟨⟨rfl, hs⟩, rfl⟩ := h1
      have hs := empty_eq hs
      subst hs
      rw [if_neg (by omega), if_neg (by omega), if_neg (by omega), if_neg (by omega), if_neg (by omega), VT.encs, topOf, if_neg (by omega), if_neg (by omega), if_neg (by omega), if_neg (by omega)]
      rfl
end Go.Proofs.YtcpgbekcbaelpaaGreatDoor
/- What the readers compute, as functions of what is left and of the first error. -/
namespace Go.Proofs.YtcpgbekcbaelpaaGreatDoor
open Wr

def rn (lo hi : Int) (b : List UInt8) (x : Int) : Int × List UInt8 × Int :=
  if x = 0 then
    match rdNum lo hi b with
    | .ok (n, r) => (n, r, 0)
    | .error y => (0, b, y)
  else (0, b, x)
def rs (hi : Int) (b : List UInt8) (x : Int) : List UInt8 × List UInt8 × Int :=
  if (rn 0 hi b x).2.2 = 0 then
    if ((rn 0 hi b x).2.1.length : Int) < (rn 0 hi b x).1 then ([], (rn 0 hi b x).2.1, 3) else ((rn 0 hi b x).2.1.take (rn 0 hi b x).1.toNat, (rn 0 hi b x).2.1.drop (rn 0 hi b x).1.toNat, 0)
  else ([], (rn 0 hi b x).2.1, (rn 0 hi b x).2.2)
theorem rdNum_ne {lo hi : Int} {b : List UInt8} {y : Int} (h : rdNum lo hi b = .error y) : y ≠ 0 := by
  unfold rdNum at h
  split at h
  · rename_i e he
    cases h
    have : ∀ (f k u : Nat) (b : List UInt8), rdv f k u b = .error 0 → False := by
      intro f
      induction f with
      | zero => intro k u b h; simp [rdv] at h
      | succ f ih =>
        intro k u b h
        cases b with
        | nil => simp [rdv] at h
        | cons x b =>
          rw [rdv] at h
          split at h
          · cases h
          · split at h
            · exact ih _ _ _ h
            · split at h <;> cases h
    rintro rfl
    exact this _ _ _ _ he
  · split at h
    · cases h; omega
    · cases h
theorem rn_ok {lo hi n : Int} {b r : List UInt8} (h : rdNum lo hi b = .ok (n, r)) : rn lo hi b 0 = (n, r, 0) := by unfold rn; rw [if_pos rfl, h]
theorem rn_err {lo hi y : Int} {b : List UInt8} (h : rdNum lo hi b = .error y) : rn lo hi b 0 = (0, b, y) := by unfold rn; rw [if_pos rfl, h]
theorem rn_past {lo hi x : Int} {b : List UInt8} (h : x ≠ 0) : rn lo hi b x = (0, b, x) := by unfold rn; rw [if_neg h]
theorem rn_le (lo hi : Int) (b : List UInt8) (x : Int) : (rn lo hi b x).2.1.length ≤ b.length := by
  unfold rn
  split
  · split
    · rename_i n r h
      obtain ⟨e, _, _⟩ := rdNum_sound h
      have := congrArg List.length e
      rw [List.length_append] at this
      simp only
      omega
    · exact Nat.le_refl _
  · exact Nat.le_refl _
theorem rn_in {lo hi : Int} (b : List UInt8) (x : Int) (h1 : lo ≤ 0) (h2 : 0 ≤ hi) : lo ≤ (rn lo hi b x).1 ∧ (rn lo hi b x).1 ≤ hi := by
  unfold rn
  split
  · split
    · rename_i n r h
      exact ⟨(rdNum_sound h).2.1, (rdNum_sound h).2.2⟩
    · exact ⟨h1, h2⟩
  · exact ⟨h1, h2⟩
theorem rn_count {lo hi : Int} (b : List UInt8) (x : Int) (h1 : 0 ≤ lo) (h2 : 0 ≤ hi) : 0 ≤ (rn lo hi b x).1 ∧ (rn lo hi b x).1 ≤ hi := by
  unfold rn
  split
  · split
    · rename_i n r h
      exact ⟨by have := (rdNum_sound h).2.1; simp only; omega, (rdNum_sound h).2.2⟩
    · exact ⟨by simp, h2⟩
  · exact ⟨by simp, h2⟩
theorem rs_le (hi : Int) (b : List UInt8) (x : Int) : (rs hi b x).2.1.length ≤ b.length := by
  have := rn_le 0 hi b x
  unfold rs
  split
  · split
    · exact this
    · simp only [List.length_drop]; omega
  · exact this
theorem rs_len (hi : Int) (b : List UInt8) (x : Int) : (rs hi b x).1.length ≤ b.length := by
  have := rn_le 0 hi b x
  unfold rs
  split
  · split
    · simp
    · simp only [List.length_take]; omega
  · simp

structure Hd where
  k : Int
  n : Int
  s : List UInt8
  m : Int
  r : List UInt8
  x : Int
def hdOf (b : List UInt8) (k : Int) (x : Int) : Hd :=
  if k = 0 then ⟨0, (rn (-4611686018427387904) 4611686018427387903 b x).1, [], 0, (rn (-4611686018427387904) 4611686018427387903 b x).2.1, (rn (-4611686018427387904) 4611686018427387903 b x).2.2⟩
  else if k = 1 ∨ k = 2 then ⟨k, 0, (rs 4096 b x).1, 0, (rs 4096 b x).2.1, (rs 4096 b x).2.2⟩
  else if k = 3 then ⟨3, (rn 0 255 b x).1, [], (rn 0 8 (rn 0 255 b x).2.1 (rn 0 255 b x).2.2).1, (rn 0 8 (rn 0 255 b x).2.1 (rn 0 255 b x).2.2).2.1, (rn 0 8 (rn 0 255 b x).2.1 (rn 0 255 b x).2.2).2.2⟩
  else if k = 4 then ⟨4, 0, [], (rn 2 8 b x).1, (rn 2 8 b x).2.1, (rn 2 8 b x).2.2⟩
  else if k = 5 then ⟨5, (rn 1 1099511627776 b x).1, [], 0, (rn 1 1099511627776 b x).2.1, (rn 1 1099511627776 b x).2.2⟩
  else ⟨k, 0, [], 0, b, x⟩
def hd (b : List UInt8) : Hd := hdOf (rn 0 6 b 0).2.1 (rn 0 6 b 0).1 (rn 0 6 b 0).2.2
def rvs (g : List UInt8 → VT × List UInt8 × Int) : Nat → List UInt8 → Int → List VT × List UInt8 × Int
  | 0, b, x => ([], b, x)
  | m + 1, b, x => if x = 0 then ((g b).1 :: (rvs g m (g b).2.1 (g b).2.2).1, (rvs g m (g b).2.1 (g b).2.2).2) else ([], b, x)
def rv : Nat → List UInt8 → VT × List UInt8 × Int
  | 0, b => (.node 0 0 ⟨#[]⟩ [], b, 2)
  | f + 1, b => (.node (hd b).k (hd b).n (bytes (hd b).s) (rvs (rv f) (hd b).m.toNat (hd b).r (hd b).x).1, (rvs (rv f) (hd b).m.toNat (hd b).r (hd b).x).2)
theorem rvs_past {g : List UInt8 → VT × List UInt8 × Int} {m : Nat} {b : List UInt8} {x : Int} (h : x ≠ 0) : rvs g m b x = ([], b, x) := by
  cases m with
  | zero => rfl
  | succ m => rw [rvs, if_neg h]
theorem hdOf_le (b : List UInt8) (k x : Int) : (hdOf b k x).r.length ≤ b.length := by
  unfold hdOf
  split
  · exact rn_le _ _ _ _
  · split
    · exact rs_le _ _ _
    · split
      · exact Nat.le_trans (rn_le _ _ _ _) (rn_le _ _ _ _)
      · split
        · exact rn_le _ _ _ _
        · split
          · exact rn_le _ _ _ _
          · exact Nat.le_refl _
theorem hd_le (b : List UInt8) : (hd b).r.length ≤ b.length := Nat.le_trans (hdOf_le _ _ _) (rn_le _ _ _ _)
theorem hd_m (b : List UInt8) : 0 ≤ (hd b).m ∧ (hd b).m ≤ 8 := by
  unfold hd hdOf
  split
  · simp
  · split
    · simp
    · split
      · exact rn_count _ _ (by omega) (by omega)
      · split
        · exact rn_count _ _ (by omega) (by omega)
        · split <;> simp
theorem rvs_le {g : List UInt8 → VT × List UInt8 × Int} (hg : ∀ b, (g b).2.1.length ≤ b.length) : ∀ (m : Nat) (b : List UInt8) (x : Int), (rvs g m b x).2.1.length ≤ b.length
  | 0, b, x => Nat.le_refl _
  | m + 1, b, x => by
    rw [rvs]
    split
    · exact Nat.le_trans (rvs_le hg m _ _) (hg b)
    · exact Nat.le_refl _
theorem rv_le : ∀ (f : Nat) (b : List UInt8), (rv f b).2.1.length ≤ b.length
  | 0, b => Nat.le_refl _
  | f + 1, b => Nat.le_trans (rvs_le (rv_le f) _ _ _) (hd_le b)

def asEx {α : Type} (p : α × List UInt8 × Int) : Except Int (α × List UInt8) := if p.2.2 = 0 then .ok (p.1, p.2.1) else .error p.2.2
theorem asEx_rn {lo hi : Int} {b : List UInt8} : rdNum lo hi b = asEx (rn lo hi b 0) := by
  cases h : rdNum lo hi b with
  | ok v => rw [rn_ok (n := v.1) (r := v.2) h]; rfl
  | error y => rw [rn_err h]; unfold asEx; rw [if_neg (rdNum_ne h)]
theorem asEx_rs {hi : Int} {b : List UInt8} : rdStr hi b = asEx (rs hi b 0) := by
  unfold rdStr rs
  cases h : rdNum 0 hi b with
  | ok v =>
    obtain ⟨n, r⟩ := v
    rw [rn_ok h]
    simp only [if_true]
    split
    · rfl
    · rfl
  | error y =>
    have := rdNum_ne h
    rw [rn_err h]
    simp only [if_neg this]
    unfold asEx
    rw [if_neg this]
theorem rdKids_rvs {g : List UInt8 → Except Int (VT × List UInt8)} {g' : List UInt8 → VT × List UInt8 × Int} (hg : ∀ b, g b = asEx (g' b)) : ∀ (m : Nat) (b : List UInt8), rdKids g m b = asEx (rvs g' m b 0)
  | 0, b => rfl
  | m + 1, b => by
    rw [rdKids, rvs, if_pos rfl, hg b]
    by_cases h : (g' b).2.2 = 0
    · rw [show asEx (g' b) = .ok ((g' b).1, (g' b).2.1) by unfold asEx; rw [if_pos h]]
      simp only
      rw [rdKids_rvs hg m, h]
      unfold asEx
      simp only
      by_cases h2 : (rvs g' m (g' b).2.1 0).2.2 = 0
      · rw [if_pos h2, if_pos h2]
      · rw [if_neg h2, if_neg h2]
    · rw [show asEx (g' b) = .error (g' b).2.2 by unfold asEx; rw [if_neg h]]
      simp only
      rw [rvs_past h]
      unfold asEx
      rw [if_neg h]
theorem rv_eq : ∀ (f : Nat) (b : List UInt8), rdVal f b = asEx (rv f b)
  | 0, b => rfl
  | f + 1, b => by
    rw [rdVal, rv]
    cases hk : rdNum 0 6 b with
    | error y =>
      have hy := rdNum_ne hk
      simp only
      have e : hd b = ⟨0, 0, [], 0, b, y⟩ := by
        unfold hd; rw [rn_err hk]; unfold hdOf; rw [if_pos rfl, rn_past hy]
      rw [e, rvs_past hy]
      unfold asEx
      rw [if_neg hy]
    | ok v =>
      obtain ⟨k, b1⟩ := v
      simp only
      have e : hd b = hdOf b1 k 0 := by unfold hd; rw [rn_ok hk]
      rw [e]
      unfold hdOf
      by_cases h0 : k = 0
      · rw [if_pos h0, if_pos h0, asEx_rn]
        simp only [Int.toNat_zero, rvs]
        unfold asEx
        by_cases hx : (rn (-4611686018427387904) 4611686018427387903 b1 0).2.2 = 0
        · rw [if_pos hx, if_pos hx]; rfl
        · rw [if_neg hx, if_neg hx]
      · rw [if_neg h0, if_neg h0]
        by_cases h1 : k = 1 ∨ k = 2
        · rw [if_pos h1, if_pos h1, asEx_rs]
          simp only [Int.toNat_zero, rvs]
          unfold asEx
          by_cases hx : (rs 4096 b1 0).2.2 = 0
          · rw [if_pos hx, if_pos hx]
          · rw [if_neg hx, if_neg hx]
        · rw [if_neg h1, if_neg h1]
          by_cases h3 : k = 3
          · rw [if_pos h3, if_pos h3, asEx_rn]
            by_cases hx : (rn 0 255 b1 0).2.2 = 0
            · rw [show asEx (rn 0 255 b1 0) = .ok ((rn 0 255 b1 0).1, (rn 0 255 b1 0).2.1) by unfold asEx; rw [if_pos hx]]
              simp only
              rw [asEx_rn, hx]
              by_cases hy : (rn 0 8 (rn 0 255 b1 0).2.1 0).2.2 = 0
              · rw [show asEx (rn 0 8 (rn 0 255 b1 0).2.1 0) = .ok ((rn 0 8 (rn 0 255 b1 0).2.1 0).1, (rn 0 8 (rn 0 255 b1 0).2.1 0).2.1) by unfold asEx; rw [if_pos hy]]
                simp only
                rw [rdKids_rvs (rv_eq f), hy]
                generalize (rvs (rv f) _ _ _) = q
                unfold asEx
                by_cases hq : q.2.2 = 0
                · rw [if_pos hq, if_pos hq]; rfl
                · rw [if_neg hq, if_neg hq]
              · rw [show asEx (rn 0 8 (rn 0 255 b1 0).2.1 0) = .error (rn 0 8 (rn 0 255 b1 0).2.1 0).2.2 by unfold asEx; rw [if_neg hy]]
                simp only
                rw [rvs_past hy]
                unfold asEx
                rw [if_neg hy]
            · rw [show asEx (rn 0 255 b1 0) = .error (rn 0 255 b1 0).2.2 by unfold asEx; rw [if_neg hx]]
              simp only
              rw [rn_past hx, rvs_past hx]
              unfold asEx
              rw [if_neg hx]
          · rw [if_neg h3, if_neg h3]
            by_cases h4 : k = 4
            · rw [if_pos h4, if_pos h4, asEx_rn]
              by_cases hy : (rn 2 8 b1 0).2.2 = 0
              · rw [show asEx (rn 2 8 b1 0) = .ok ((rn 2 8 b1 0).1, (rn 2 8 b1 0).2.1) by unfold asEx; rw [if_pos hy]]
                simp only
                rw [rdKids_rvs (rv_eq f), hy]
                generalize (rvs (rv f) _ _ _) = q
                unfold asEx
                by_cases hq : q.2.2 = 0
                · rw [if_pos hq, if_pos hq]; rfl
                · rw [if_neg hq, if_neg hq]
              · rw [show asEx (rn 2 8 b1 0) = .error (rn 2 8 b1 0).2.2 by unfold asEx; rw [if_neg hy]]
                simp only
                rw [rvs_past hy]
                unfold asEx
                rw [if_neg hy]
            · rw [if_neg h4, if_neg h4]
              by_cases h5 : k = 5
              · rw [if_pos h5, if_pos h5, asEx_rn]
                simp only [Int.toNat_zero, rvs]
                unfold asEx
                by_cases hx : (rn 1 1099511627776 b1 0).2.2 = 0
                · rw [if_pos hx, if_pos hx]; rfl
                · rw [if_neg hx, if_neg hx]
              · rw [if_neg h5, if_neg h5]
                have := (rdNum_sound hk).2
                obtain rfl : k = 6 := by omega
                rfl
end Go.Proofs.YtcpgbekcbaelpaaGreatDoor
/- A row of bytes that grows while all else stays. -/
namespace Go.Proofs.YtcpgbekcbaelpaaGreatDoor
open Go.RowKit Go.Maps Wr

def OwnStep (w : World) (v : Value) (w' : World) (v' : Value) : Prop :=
  Chg v.ownBlock.toList w w' ∧ (v'.ownBlock = v.ownBlock ∨ ∃ k, v'.ownBlock = some k ∧ w.heap.size ≤ k)
theorem OwnStep.refl (w : World) (v : Value) : OwnStep w v w v := ⟨Chg.refl _ _, .inl rfl⟩
theorem OwnStep.trans {w w1 w2 : World} {v v1 v2 : Value} (h : OwnStep w v w1 v1) (k : OwnStep w1 v1 w2 v2) : OwnStep w v w2 v2 := by
  obtain ⟨h1, h2⟩ := h
  obtain ⟨k1, k2⟩ := k
  have hs := h1.size
  refine ⟨⟨k1.os.trans h1.os, k1.tape.trans h1.tape, k1.output.trans h1.output, Nat.le_trans hs k1.size, fun i hi hn => ?_⟩, ?_⟩
  · refine (k1.block i (by omega) (fun hm => ?_)).trans (h1.block i hi hn)
    rcases h2 with e | ⟨j, e, hj⟩
    · rw [e] at hm; exact hn hm
    · rw [e] at hm; simp at hm; omega
  · rcases k2 with e | ⟨j, e, hj⟩
    · rcases h2 with e2 | ⟨j, e2, hj⟩
      · exact .inl (e.trans e2)
      · exact .inr ⟨j, e.trans e2, hj⟩
    · exact .inr ⟨j, e, by omega⟩
theorem OwnStep.made {w w' : World} (v : Value) (h : Below w.heap.size w w') : OwnStep w v w' v := ⟨⟨h.os, h.tape, h.output, h.size, fun i hi _ => h.block i hi⟩, .inl rfl⟩
theorem OwnStep.block {w w' : World} {v v' : Value} (h : OwnStep w v w' v') {i : Nat} (hi : i < w.heap.size) (hv : v.ownBlock ≠ some i) : w'.heap[i]? = w.heap[i]? := h.1.block i hi (by simpa using hv)
theorem OwnStep.apart {w w' : World} {v v' : Value} (h : OwnStep w v w' v') {i : Nat} (hi : i < w.heap.size) (hv : v.ownBlock ≠ some i) : v'.ownBlock ≠ some i := by
  rcases h.2 with e | ⟨k, e, hk⟩
  · rw [e]; exact hv
  · rw [e]; simp; omega
theorem OwnStep.size {w w' : World} {v v' : Value} (h : OwnStep w v w' v') : w.heap.size ≤ w'.heap.size := h.1.size
theorem OwnStep.below {w w' : World} {v v' : Value} {N : Nat} (h : OwnStep w v w' v') (hN : N ≤ w.heap.size) (hv : ∀ k, v.ownBlock = some k → N ≤ k) : Below N w w' := h.1.below hN (fun k hk => hv k (by simpa using hk))
theorem ValIs.own {w w' : World} {v v' x : Value} {P : Nat → Prop} {t : VT} (h : ValIs w P t x) (hs : OwnStep w v w' v') (hP : ∀ b, P b → b < w.heap.size ∧ v.ownBlock ≠ some b) : ValIs w' P t x :=
  h.chg hs.1 (fun b hb => ⟨(hP b hb).1, by simpa using (hP b hb).2⟩)

theorem ByteRow.shape {w : World} {N : Nat} {v : Value} {l : List UInt8} (h : ByteRow w N v l) (hne : l ≠ []) : ∃ g cap, v = .slice (some ⟨g, 0, none⟩) l.length cap ∧ g < w.heap.size := by
  rcases h.1.shape with ⟨_, hn⟩ | ⟨g, cap, hv, _, _, hg⟩
  · exfalso
    have := congrArg List.length hn
    rw [bvals_length] at this
    exact hne (List.length_eq_zero_iff.1 this)
  · exact ⟨g, cap, by rw [hv, bvals_length], hg⟩
theorem ByteRow.form {w : World} {N : Nat} {v : Value} {l : List UInt8} (h : ByteRow w N v l) : ∃ ao cap, v = .slice ao l.length cap ∧ l.length ≤ cap ∧ cap ≤ maxLen := by
  obtain ⟨ao, cap, hv, h1, h2, _⟩ := h.1.form
  rw [bvals_length] at hv h1
  exact ⟨ao, cap, hv, h1, h2⟩

theorem wpList_appb {w : World} {ops : Array Oper} {rest : List Oper} {o : Oper} {a : Act} {Q : Exit → Act → World → Prop} (hgd : o.guard = none) (s x : Operand)
    (ho : o.op = .call { callee := .builtin .append, args := #[s, x], argTypes := #[44, 44] }) {N M : Nat} {v vx : Value} {b l : List UInt8} (hs : a.eval s = v) (hr : ByteRow w N v b) (hx : a.eval x = vx) (hrx : ByteRow w M vx l) (hne : l ≠ []) (hN : N ≤ w.heap.size)
    (h63 : b.length + l.length ≤ 1000000000)
    (h : ∀ v' w', ByteRow w' N v' (b ++ l) → OwnStep w v w' v' → wpList Tryz.prog ops Q rest (a.put o.dst v') w') : wpList Tryz.prog ops Q (o :: rest) a w := by
  obtain ⟨i0, hi, hz0, hz1, hz2⟩ := info_parts infoB
  obtain ⟨g, cap, hvx, hg⟩ := hrx.shape hne
  have hrow := hrx.1
  rw [hvx] at hrow
  refine wpList_append_own_at w hgd s x 44 ho N 5 i0 (.int .u8 0) 1 1 Tryz.underlying44 hi hz0 hz1 hz2 rfl (by decide) v b.length (bvals b) hs hr.owns ⟨g, 0, none⟩ l.length cap (bvals l) (by rw [hx, hvx]) (by rw [bvals_length, Nat.mul_one]) (fun j u hj => ?_) (bvals_one l) (by unfold maxLen; omega) (by omega) hN ?_
  · have hj2 := (List.getElem?_eq_some_iff.1 hj).1
    rw [show (Addr.add ⟨g, 0, none⟩ j) = ⟨g, j, none⟩ by unfold Addr.add; split <;> simp_all]
    rw [hrow.cellAt j hj2]; exact hj
  · intro v' w' hown hgr _ hloc
    rw [← bvals_append] at hown
    refine h v' w' (ByteRow.of hown (by rw [List.length_append])) ⟨(Chg.refl _ w).grown hgr (fun k hk => .inl (by simp [hk])), ?_⟩
    rcases hloc with e | e
    · exact .inl e
    · exact .inr ⟨_, e, Nat.le_refl _⟩
end Go.Proofs.YtcpgbekcbaelpaaGreatDoor
/- The program's put: a value's bytes behind others. -/
namespace Go.Proofs.YtcpgbekcbaelpaaGreatDoor
open Go.RowKit Go.Maps Wr
set_option linter.unusedVariables false

namespace VT
mutual
theorem put_len {L : Nat} : ∀ (t : VT) (b : List UInt8) (d : Int), t.right d = true → (put L t b).length ≤ max b.length (L + 4116)
  | node k n s l, b, d, h => by
    obtain ⟨h1, h2, h3⟩ := right_parts h
    rw [put]
    split
    · omega
    · have a := topOf_len h1
      have f := fits_parts h1
      have c := num_len (n := k) (by omega) (by omega)
      have := puts_len (L := L) l (b ++ Wr.num k ++ topOf k n s l.length) (d + 1) h2
      rw [List.length_append, List.length_append] at this
      omega
theorem puts_len {L : Nat} : ∀ (l : List VT) (b : List UInt8) (d : Int), rights l d = true → (puts L l b).length ≤ max b.length (L + 4116)
  | [], b, d, _ => by rw [puts]; omega
  | t :: l, b, d, h => by
    rw [rights_cons, Bool.and_eq_true] at h
    rw [puts]
    have h1 := put_len (L := L) t b d h.1
    have h2 := puts_len (L := L) l (put L t b) d h.2
    omega
end
end VT

theorem box_cells {w w' : World} {v v' a b c d : Value} {t : TypeId} (h : OwnStep (w.alloc (.cells #[a, b, c, d] t)) v w' v') (hv : v.ownBlock ≠ some w.heap.size) :
    w'.cell? ⟨w.heap.size, 0, none⟩ = some a ∧ w'.cell? ⟨w.heap.size, 1, none⟩ = some b ∧ w'.cell? ⟨w.heap.size, 2, none⟩ = some c ∧ w'.cell? ⟨w.heap.size, 3, none⟩ = some d := by
  have hb := (h.block (i := w.heap.size) (by simp) hv).trans (heap_alloc_new w _)
  simp [World.cell?, hb]
def PutEnd (w : World) (N : Nat) (v : Value) (l : List UInt8) (e : Ending) (w' : World) : Prop := ∃ v', e = .returned v' ∧ ByteRow w' N v' l ∧ OwnStep w v w' v'
def PutLoop (N : Nat) (W : World) (v : Value) (L : Nat) (l : List VT) (b : List UInt8) (k : Nat) (s0 s1 : Value) (w : World) : Prop :=
  ∃ (i : Nat) (b' : List UInt8), s1 = .int .i64 i ∧ i + k = l.length ∧ ByteRow w N s0 b' ∧ VT.puts L l b = VT.puts L (l.drop i) b' ∧ b'.length ≤ 100000 ∧ OwnStep W v w s0
theorem PutEnd.boxed {w w' : World} {N : Nat} {v : Value} {l : List UInt8} {e : Ending} {o : Obj} (h : PutEnd (w.alloc o) N v l e w') (hv : ∀ k, v.ownBlock = some k → k < w.heap.size) : PutEnd w N v l e w' := by
  obtain ⟨v', h1, h2, h3⟩ := h
  exact ⟨v', h1, h2, (OwnStep.made v ((Below.refl _ _).alloc (Nat.le_refl _) o)).trans h3⟩

section
variable (L : Nat) (k : Nat) (ih : ∀ (t : VT) (vt : Value) (w : World) (P : Nat → Prop) (d : Int) (N : Nat) (v : Value) (b : List UInt8), t.sz ≤ k → t.right d = true → ValIs w P t vt → (∀ x, P x → x < w.heap.size ∧ v.ownBlock ≠ some x) → ByteRow w N v b → N ≤ w.heap.size → b.length ≤ 100000 →
    Calls Tryz.prog 141 #[v, vt] w (PutEnd w N v (t.put 16384 b)))
include ih in
set_option maxRecDepth 100000 in
set_option maxHeartbeats 3200000 in
theorem put_6 (na : Int) (sa : ByteArray) (la : List VT) (w : World) (P : Nat → Prop) (d : Int) (N : Nat) (v : Value) (b : List UInt8) (ao : Option Addr) (cap : Nat) (hk : (VT.node 6 na sa la).sz ≤ k + 1) (hr : (VT.node 6 na sa la).right d = true)
    (a1 : la.length ≤ cap) (a2 : cap ≤ maxLen) (a7 : KidsAt w P la ao 0) (hP : ∀ x, P x → x < w.heap.size ∧ v.ownBlock ≠ some x) (hrow : ByteRow w N v b) (hN : N ≤ w.heap.size) (hb : b.length ≤ 16384) :
    Calls Tryz.prog 141 #[v, .agg #[.int .i64 6, .int .i64 na, .string sa, .slice ao la.length cap]] w (PutEnd w N v ((VT.node 6 na sa la).put 16384 b)) := by
  obtain ⟨hf, hrs', hd⟩ := VT.right_parts hr
  have hrs := Lib.hid hrs'
  have HR := Lib.hid hrow
  obtain ⟨ao0, cap0, rfl, hc0, hc1⟩ := hrow.form
  unfold maxLen at a2 hc1
  have hfp := fits_parts hf
  have HT := Lib.hid (topOf_len hf)
  have hpt : Hid ((VT.node 6 na sa la).put 16384 b = VT.puts 16384 la (b ++ num 6 ++ topOf 6 na sa la.length)) := by show _ = _; rw [VT.put_node, if_neg (by omega)]
  have HB1 : Hid (ByteRow (w.alloc (.cells #[.int .i64 6, .int .i64 na, .string sa, .slice ao la.length cap] 33)) N (.slice ao0 b.length cap0) b) := hrow.below ((Below.refl _ _).alloc (Nat.le_refl _) _)
  have hnk := Lib.hid (num_len (n := 6) (by omega) (by omega))
  have HNK : Hid (∀ W, Calls Tryz.prog 90 #[.int .i64 6] W (RowEnd W W.heap.size (num 6))) := fun W => wireNum_any 6 W (by omega) (by omega)
  have hvo : Hid ((Value.slice ao0 b.length cap0).ownBlock ≠ some w.heap.size) := fun e => by have := HR.out.lt e; omega
  clear hrow hr hrs'
  have hb2 : (b.length : Int) ≤ 16384 := by omega
  go_enter Tryz.func141, Tryz.ntmps141
  go_wp2_with
    (first
     | ((go_at_call 90; refine (HNK.out _).mono ?_; rintro e w5 ⟨v5, rfl, hr5, hb5⟩; have R5 := Lib.hid hr5; have B5 := Lib.hid hb5; clear hr5 hb5 HNK))
     | (at_builtin; (refine wpList_appb (w := w5) rfl _ _ rfl (v := .slice ao0 b.length cap0) (vx := v5) rfl (HB1.out.below B5.out) rfl R5.out (num_ne _) (by have := B5.out.size; simp at this; omega) (by have := hnk.out; omega) ?_; intro v6 w6 hr6 ho6; have R6 := Lib.hid hr6; have O6 : Hid (OwnStep _ _ w6 v6) := (OwnStep.made _ B5.out).trans ho6; clear hr6 ho6; clear HB1; obtain ⟨c60, c61, c62, c63⟩ := box_cells O6.out hvo.out)))
  have hbz : Hid ((b ++ num 6 ++ topOf 6 na sa la.length).length ≤ 100000) := by have := hnk.out; have := HT.out; show _ ≤ 100000; rw [List.length_append, List.length_append]; omega
  have RZ : Hid (ByteRow w6 N v6 (b ++ num 6 ++ topOf 6 na sa la.length)) := by
    have e : topOf 6 na sa la.length = [] := by simp [topOf]
    show ByteRow _ _ _ _
    rw [e, List.append_nil]; exact R6.out
  have hbox : Hid (w6.heap[w.heap.size]? = some (.cells #[.int .i64 6, .int .i64 na, .string sa, .slice ao la.length cap] 33 (0, 0))) := (O6.out.block (by simp) (fun e => by have := HR.out.lt e; omega)).trans (heap_alloc_new w _)
  have HL : Hid (PutLoop N w6 v6 16384 la (b ++ num 6 ++ topOf 6 na sa la.length) la.length v6 (.int .i64 0) w6) := ⟨0, (b ++ num 6 ++ topOf 6 na sa la.length), rfl, by omega, RZ.out, rfl, hbz.out, OwnStep.refl _ _⟩
  go_loopg [0, 57] la.length (fun k s0 s1 wr => PutLoop N w6 v6 16384 la (b ++ num 6 ++ topOf 6 na sa la.length) k s0 s1 wr)
  case atStart => exact HL.out
  case round =>
    clear HL
    obtain ⟨i, b', rfl, hik, hrow, hput, hbl, hown⟩ := hrel
    have HROW := Lib.hid hrow
    have HPUT := Lib.hid hput
    have HBL := Lib.hid hbl
    have HOWN := Lib.hid hown
    have OW : Hid (OwnStep (w.alloc (.cells #[.int .i64 6, .int .i64 na, .string sa, .slice ao la.length cap] 33)) (.slice ao0 b.length cap0) wr u0) := O6.out.trans hown
    clear hrow hput hbl hown
    by_cases hlt : i < la.length
    · obtain ⟨tk, htk⟩ : ∃ u, la[i]? = some u := ⟨_, List.getElem?_eq_getElem hlt⟩
      obtain ⟨bb, oo, _, _, _, _, rfl, hbb, _⟩ := a7.get htk
      obtain ⟨_, aok, capk, p0, p1, p2, p3, hvk⟩ := a7.cells htk
      unfold vval at hvk
      rw [Nat.zero_add] at p0 p1 p2 p3
      have hbb' := hP _ hbb
      have hblk : wr.heap[bb]? = w.heap[bb]? := (OW.out.block (by simp; omega) hbb'.2).trans (heap_alloc_old _ _ hbb'.1)
      have cc : ∀ j, wr.cell? ⟨bb, j, none⟩ = w.cell? ⟨bb, j, none⟩ := fun j => by simp [World.cell?, hblk]
      replace p0 := (cc _).trans p0
      replace p1 := (cc _).trans p1
      replace p2 := (cc _).trans p2
      replace p3 := (cc _).trans p3
      have hvk' : Hid (ValIs wr P tk (.agg #[.int .i64 tk.kind, .int .i64 tk.num, .string tk.text, .slice aok tk.kids.length capk])) := (hvk.below ((Below.refl _ _).alloc (Nat.le_refl _) _) (fun b hb => (hP b hb).1)).own OW.out (fun b hb => ⟨by have := (hP b hb).1; simp; omega, (hP b hb).2⟩)
      have HPB : Hid (∀ x, P x → x < wr.heap.size ∧ u0.ownBlock ≠ some x) := fun x hx => ⟨by have := (hP x hx).1; have := OW.out.size; simp at this; omega, OW.out.apart (by have := (hP x hx).1; simp; omega) (hP x hx).2⟩
      have hkid : Hid (tk.sz ≤ k) := by
        have h5 : tk.sz < (VT.node 6 na sa la).sz := VT.sz_kid (t := VT.node 6 na sa la) htk
        show tk.sz ≤ k; omega
      have hrk := Lib.hid (VT.rights_get hrs.out htk)
      have hdrop := Lib.hid (VT.drop_kid htk)
      have g1' : (i : Int) < (la.length : Int) := by omega
      have hi0 : (0 : Int) ≤ (i : Int) := by omega
      have hNr : Hid (N ≤ wr.heap.size) := by have := OW.out.size; simp at this; show N ≤ wr.heap.size; omega
      clear hvk htk cc hblk
      go_wp2_with ((go_at_call 141; refine (ih tk _ _ P (d + 1) N u0 b' hkid.out hrk.out (hvk'.out.below ((Below.refl _ _).alloc (Nat.le_refl _) _) (fun b hb => (HPB.out b hb).1)) (fun x hx => ⟨by have := (HPB.out x hx).1; simp; omega, (HPB.out x hx).2⟩) (HROW.out.below ((Below.refl _ _).alloc (Nat.le_refl _) _)) (by have := hNr.out; simp; omega) HBL.out).mono ?_; rintro e w7 ⟨v7, rfl, hr7, ho7⟩; have HR7 := Lib.hid hr7; have HO7 := Lib.hid ho7; clear hr7 ho7))
      go_roundg (gk - 1)
      case measure => omega
      case rel => exact ⟨i + 1, _, by go_num, by omega, HR7.out, by rw [HPUT.out, hdrop.out, VT.puts_cons], by have := VT.put_len (L := 16384) tk b' (d + 1) hrk.out; have := HBL.out; omega, HOWN.out.trans ((OwnStep.made u0 ((Below.refl _ _).alloc (Nat.le_refl _) _)).trans HO7.out)⟩
    · obtain rfl : i = la.length := by omega
      go_wp2
      go_ret
      refine PutEnd.boxed (o := .cells #[.int .i64 6, .int .i64 na, .string sa, .slice ao la.length cap] 33) ⟨_, rfl, ?_, OW.out⟩ (fun k hk => HR.out.lt hk)
      rw [hpt.out, HPUT.out, List.drop_length, VT.puts_nil]
      exact HROW.out

include ih in
set_option maxRecDepth 100000 in
set_option maxHeartbeats 3200000 in
theorem put_0 (na : Int) (sa : ByteArray) (la : List VT) (w : World) (P : Nat → Prop) (d : Int) (N : Nat) (v : Value) (b : List UInt8) (ao : Option Addr) (cap : Nat) (hk : (VT.node 0 na sa la).sz ≤ k + 1) (hr : (VT.node 0 na sa la).right d = true)
    (a1 : la.length ≤ cap) (a2 : cap ≤ maxLen) (a7 : KidsAt w P la ao 0) (hP : ∀ x, P x → x < w.heap.size ∧ v.ownBlock ≠ some x) (hrow : ByteRow w N v b) (hN : N ≤ w.heap.size) (hb : b.length ≤ 16384) :
    Calls Tryz.prog 141 #[v, .agg #[.int .i64 0, .int .i64 na, .string sa, .slice ao la.length cap]] w (PutEnd w N v ((VT.node 0 na sa la).put 16384 b)) := by
  obtain ⟨hf, hrs', hd⟩ := VT.right_parts hr
  have hrs := Lib.hid hrs'
  have HR := Lib.hid hrow
  obtain ⟨ao0, cap0, rfl, hc0, hc1⟩ := hrow.form
  unfold maxLen at a2 hc1
  have hfp := fits_parts hf
  have HT := Lib.hid (topOf_len hf)
  have hpt : Hid ((VT.node 0 na sa la).put 16384 b = VT.puts 16384 la (b ++ num 0 ++ topOf 0 na sa la.length)) := by show _ = _; rw [VT.put_node, if_neg (by omega)]
  have HB1 : Hid (ByteRow (w.alloc (.cells #[.int .i64 0, .int .i64 na, .string sa, .slice ao la.length cap] 33)) N (.slice ao0 b.length cap0) b) := hrow.below ((Below.refl _ _).alloc (Nat.le_refl _) _)
  have hnk := Lib.hid (num_len (n := 0) (by omega) (by omega))
  have HNK : Hid (∀ W, Calls Tryz.prog 90 #[.int .i64 0] W (RowEnd W W.heap.size (num 0))) := fun W => wireNum_any 0 W (by omega) (by omega)
  have hvo : Hid ((Value.slice ao0 b.length cap0).ownBlock ≠ some w.heap.size) := fun e => by have := HR.out.lt e; omega
  clear hrow hr hrs'
  have hb2 : (b.length : Int) ≤ 16384 := by omega
  have hna := Lib.hid (num_len (n := na) (by omega) (by omega))
  have HNA : Hid (∀ W, Calls Tryz.prog 90 #[.int .i64 na] W (RowEnd W W.heap.size (num na))) := fun W => wireNum_any na W (by omega) (by omega)
  go_enter Tryz.func141, Tryz.ntmps141
  go_wp2_with
    (first
     | ((go_at_call 90; refine (HNK.out _).mono ?_; rintro e w5 ⟨v5, rfl, hr5, hb5⟩; have R5 := Lib.hid hr5; have B5 := Lib.hid hb5; clear hr5 hb5 HNK))
     | ((go_at_call 90; refine (HNA.out _).mono ?_; rintro e w7 ⟨v7, rfl, hr7, hb7⟩; have R7 := Lib.hid hr7; have B7 := Lib.hid hb7; clear hr7 hb7))
     | (at_builtin; (refine wpList_appb (w := w5) rfl _ _ rfl (v := .slice ao0 b.length cap0) (vx := v5) rfl (HB1.out.below B5.out) rfl R5.out (num_ne _) (by have := B5.out.size; simp at this; omega) (by have := hnk.out; omega) ?_; intro v6 w6 hr6 ho6; have R6 := Lib.hid hr6; have O6 : Hid (OwnStep _ _ w6 v6) := (OwnStep.made _ B5.out).trans ho6; clear hr6 ho6; clear HB1; obtain ⟨c60, c61, c62, c63⟩ := box_cells O6.out hvo.out))
     | (at_builtin; (refine wpList_appb (w := w7) rfl _ _ rfl (v := v6) (vx := v7) rfl (R6.out.below B7.out) rfl R7.out (num_ne _) (by have := B7.out.size; have := O6.out.size; simp at this; omega) (by have := hnk.out; have := hna.out; rw [List.length_append]; omega) ?_; intro v8 w8 hr8 ho8; have R8 := Lib.hid hr8; have O8 : Hid (OwnStep _ _ w8 v8) := O6.out.trans ((OwnStep.made _ B7.out).trans ho8); clear hr8 ho8; obtain ⟨c80, c81, c82, c83⟩ := box_cells O8.out hvo.out)))
  have e : topOf 0 na sa la.length = num na := by simp [topOf]
  have hbz : Hid ((b ++ num 0 ++ topOf 0 na sa la.length).length ≤ 100000) := by have := hnk.out; have := HT.out; show _ ≤ 100000; rw [List.length_append, List.length_append]; omega
  have RZ : Hid (ByteRow w8 N v8 (b ++ num 0 ++ topOf 0 na sa la.length)) := by show ByteRow _ _ _ _; rw [e]; exact R8.out
  clear e
  have hbox : Hid (w8.heap[w.heap.size]? = some (.cells #[.int .i64 0, .int .i64 na, .string sa, .slice ao la.length cap] 33 (0, 0))) := (O8.out.block (by simp) (fun e => by have := HR.out.lt e; omega)).trans (heap_alloc_new w _)
  have HL : Hid (PutLoop N w8 v8 16384 la (b ++ num 0 ++ topOf 0 na sa la.length) la.length v8 (.int .i64 0) w8) := ⟨0, (b ++ num 0 ++ topOf 0 na sa la.length), rfl, by omega, RZ.out, rfl, hbz.out, OwnStep.refl _ _⟩
  go_loopg [0, 57] la.length (fun k s0 s1 wr => PutLoop N w8 v8 16384 la (b ++ num 0 ++ topOf 0 na sa la.length) k s0 s1 wr)
  case atStart => exact HL.out
  case round =>
    clear HL
    obtain ⟨i, b', rfl, hik, hrow, hput, hbl, hown⟩ := hrel
    have HROW := Lib.hid hrow
    have HPUT := Lib.hid hput
    have HBL := Lib.hid hbl
    have HOWN := Lib.hid hown
    have OW : Hid (OwnStep (w.alloc (.cells #[.int .i64 0, .int .i64 na, .string sa, .slice ao la.length cap] 33)) (.slice ao0 b.length cap0) wr u0) := O8.out.trans hown
    clear hrow hput hbl hown
    by_cases hlt : i < la.length
    · obtain ⟨tk, htk⟩ : ∃ u, la[i]? = some u := ⟨_, List.getElem?_eq_getElem hlt⟩
      obtain ⟨bb, oo, _, _, _, _, rfl, hbb, _⟩ := a7.get htk
      obtain ⟨_, aok, capk, p0, p1, p2, p3, hvk⟩ := a7.cells htk
      unfold vval at hvk
      rw [Nat.zero_add] at p0 p1 p2 p3
      have hbb' := hP _ hbb
      have hblk : wr.heap[bb]? = w.heap[bb]? := (OW.out.block (by simp; omega) hbb'.2).trans (heap_alloc_old _ _ hbb'.1)
      have cc : ∀ j, wr.cell? ⟨bb, j, none⟩ = w.cell? ⟨bb, j, none⟩ := fun j => by simp [World.cell?, hblk]
      replace p0 := (cc _).trans p0
      replace p1 := (cc _).trans p1
      replace p2 := (cc _).trans p2
      replace p3 := (cc _).trans p3
      have hvk' : Hid (ValIs wr P tk (.agg #[.int .i64 tk.kind, .int .i64 tk.num, .string tk.text, .slice aok tk.kids.length capk])) := (hvk.below ((Below.refl _ _).alloc (Nat.le_refl _) _) (fun b hb => (hP b hb).1)).own OW.out (fun b hb => ⟨by have := (hP b hb).1; simp; omega, (hP b hb).2⟩)
      have HPB : Hid (∀ x, P x → x < wr.heap.size ∧ u0.ownBlock ≠ some x) := fun x hx => ⟨by have := (hP x hx).1; have := OW.out.size; simp at this; omega, OW.out.apart (by have := (hP x hx).1; simp; omega) (hP x hx).2⟩
      have hkid : Hid (tk.sz ≤ k) := by
        have h5 : tk.sz < (VT.node 0 na sa la).sz := VT.sz_kid (t := VT.node 0 na sa la) htk
        show tk.sz ≤ k; omega
      have hrk := Lib.hid (VT.rights_get hrs.out htk)
      have hdrop := Lib.hid (VT.drop_kid htk)
      have g1' : (i : Int) < (la.length : Int) := by omega
      have hi0 : (0 : Int) ≤ (i : Int) := by omega
      have hNr : Hid (N ≤ wr.heap.size) := by have := OW.out.size; simp at this; show N ≤ wr.heap.size; omega
      clear hvk htk cc hblk
      go_wp2_with ((go_at_call 141; refine (ih tk _ _ P (d + 1) N u0 b' hkid.out hrk.out (hvk'.out.below ((Below.refl _ _).alloc (Nat.le_refl _) _) (fun b hb => (HPB.out b hb).1)) (fun x hx => ⟨by have := (HPB.out x hx).1; simp; omega, (HPB.out x hx).2⟩) (HROW.out.below ((Below.refl _ _).alloc (Nat.le_refl _) _)) (by have := hNr.out; simp; omega) HBL.out).mono ?_; rintro e w7 ⟨v7, rfl, hr7, ho7⟩; have HR7 := Lib.hid hr7; have HO7 := Lib.hid ho7; clear hr7 ho7))
      go_roundg (gk - 1)
      case measure => omega
      case rel => exact ⟨i + 1, _, by go_num, by omega, HR7.out, by rw [HPUT.out, hdrop.out, VT.puts_cons], by have := VT.put_len (L := 16384) tk b' (d + 1) hrk.out; have := HBL.out; omega, HOWN.out.trans ((OwnStep.made u0 ((Below.refl _ _).alloc (Nat.le_refl _) _)).trans HO7.out)⟩
    · obtain rfl : i = la.length := by omega
      go_wp2
      go_ret
      refine PutEnd.boxed (o := .cells #[.int .i64 0, .int .i64 na, .string sa, .slice ao la.length cap] 33) ⟨_, rfl, ?_, OW.out⟩ (fun k hk => HR.out.lt hk)
      rw [hpt.out, HPUT.out, List.drop_length, VT.puts_nil]
      exact HROW.out

include ih in
set_option maxRecDepth 100000 in
set_option maxHeartbeats 3200000 in
theorem put_5 (na : Int) (sa : ByteArray) (la : List VT) (w : World) (P : Nat → Prop) (d : Int) (N : Nat) (v : Value) (b : List UInt8) (ao : Option Addr) (cap : Nat) (hk : (VT.node 5 na sa la).sz ≤ k + 1) (hr : (VT.node 5 na sa la).right d = true)
    (a1 : la.length ≤ cap) (a2 : cap ≤ maxLen) (a7 : KidsAt w P la ao 0) (hP : ∀ x, P x → x < w.heap.size ∧ v.ownBlock ≠ some x) (hrow : ByteRow w N v b) (hN : N ≤ w.heap.size) (hb : b.length ≤ 16384) :
    Calls Tryz.prog 141 #[v, .agg #[.int .i64 5, .int .i64 na, .string sa, .slice ao la.length cap]] w (PutEnd w N v ((VT.node 5 na sa la).put 16384 b)) := by
  obtain ⟨hf, hrs', hd⟩ := VT.right_parts hr
  have hrs := Lib.hid hrs'
  have HR := Lib.hid hrow
  obtain ⟨ao0, cap0, rfl, hc0, hc1⟩ := hrow.form
  unfold maxLen at a2 hc1
  have hfp := fits_parts hf
  have HT := Lib.hid (topOf_len hf)
  have hpt : Hid ((VT.node 5 na sa la).put 16384 b = VT.puts 16384 la (b ++ num 5 ++ topOf 5 na sa la.length)) := by show _ = _; rw [VT.put_node, if_neg (by omega)]
  have HB1 : Hid (ByteRow (w.alloc (.cells #[.int .i64 5, .int .i64 na, .string sa, .slice ao la.length cap] 33)) N (.slice ao0 b.length cap0) b) := hrow.below ((Below.refl _ _).alloc (Nat.le_refl _) _)
  have hnk := Lib.hid (num_len (n := 5) (by omega) (by omega))
  have HNK : Hid (∀ W, Calls Tryz.prog 90 #[.int .i64 5] W (RowEnd W W.heap.size (num 5))) := fun W => wireNum_any 5 W (by omega) (by omega)
  have hvo : Hid ((Value.slice ao0 b.length cap0).ownBlock ≠ some w.heap.size) := fun e => by have := HR.out.lt e; omega
  clear hrow hr hrs'
  have hb2 : (b.length : Int) ≤ 16384 := by omega
  have hna := Lib.hid (num_len (n := na) (by omega) (by omega))
  have HNA : Hid (∀ W, Calls Tryz.prog 90 #[.int .i64 na] W (RowEnd W W.heap.size (num na))) := fun W => wireNum_any na W (by omega) (by omega)
  go_enter Tryz.func141, Tryz.ntmps141
  go_wp2_with
    (first
     | ((go_at_call 90; refine (HNK.out _).mono ?_; rintro e w5 ⟨v5, rfl, hr5, hb5⟩; have R5 := Lib.hid hr5; have B5 := Lib.hid hb5; clear hr5 hb5 HNK))
     | ((go_at_call 90; refine (HNA.out _).mono ?_; rintro e w7 ⟨v7, rfl, hr7, hb7⟩; have R7 := Lib.hid hr7; have B7 := Lib.hid hb7; clear hr7 hb7))
     | (at_builtin; (refine wpList_appb (w := w5) rfl _ _ rfl (v := .slice ao0 b.length cap0) (vx := v5) rfl (HB1.out.below B5.out) rfl R5.out (num_ne _) (by have := B5.out.size; simp at this; omega) (by have := hnk.out; omega) ?_; intro v6 w6 hr6 ho6; have R6 := Lib.hid hr6; have O6 : Hid (OwnStep _ _ w6 v6) := (OwnStep.made _ B5.out).trans ho6; clear hr6 ho6; clear HB1; obtain ⟨c60, c61, c62, c63⟩ := box_cells O6.out hvo.out))
     | (at_builtin; (refine wpList_appb (w := w7) rfl _ _ rfl (v := v6) (vx := v7) rfl (R6.out.below B7.out) rfl R7.out (num_ne _) (by have := B7.out.size; have := O6.out.size; simp at this; omega) (by have := hnk.out; have := hna.out; rw [List.length_append]; omega) ?_; intro v8 w8 hr8 ho8; have R8 := Lib.hid hr8; have O8 : Hid (OwnStep _ _ w8 v8) := O6.out.trans ((OwnStep.made _ B7.out).trans ho8); clear hr8 ho8; obtain ⟨c80, c81, c82, c83⟩ := box_cells O8.out hvo.out)))
  have e : topOf 5 na sa la.length = num na := by simp [topOf]
  have hbz : Hid ((b ++ num 5 ++ topOf 5 na sa la.length).length ≤ 100000) := by have := hnk.out; have := HT.out; show _ ≤ 100000; rw [List.length_append, List.length_append]; omega
  have RZ : Hid (ByteRow w8 N v8 (b ++ num 5 ++ topOf 5 na sa la.length)) := by show ByteRow _ _ _ _; rw [e]; exact R8.out
  clear e
  have hbox : Hid (w8.heap[w.heap.size]? = some (.cells #[.int .i64 5, .int .i64 na, .string sa, .slice ao la.length cap] 33 (0, 0))) := (O8.out.block (by simp) (fun e => by have := HR.out.lt e; omega)).trans (heap_alloc_new w _)
  have HL : Hid (PutLoop N w8 v8 16384 la (b ++ num 5 ++ topOf 5 na sa la.length) la.length v8 (.int .i64 0) w8) := ⟨0, (b ++ num 5 ++ topOf 5 na sa la.length), rfl, by omega, RZ.out, rfl, hbz.out, OwnStep.refl _ _⟩
  go_loopg [0, 57] la.length (fun k s0 s1 wr => PutLoop N w8 v8 16384 la (b ++ num 5 ++ topOf 5 na sa la.length) k s0 s1 wr)
  case atStart => exact HL.out
  case round =>
    clear HL
    obtain ⟨i, b', rfl, hik, hrow, hput, hbl, hown⟩ := hrel
    have HROW := Lib.hid hrow
    have HPUT := Lib.hid hput
    have HBL := Lib.hid hbl
    have HOWN := Lib.hid hown
    have OW : Hid (OwnStep (w.alloc (.cells #[.int .i64 5, .int .i64 na, .string sa, .slice ao la.length cap] 33)) (.slice ao0 b.length cap0) wr u0) := O8.out.trans hown
    clear hrow hput hbl hown
    by_cases hlt : i < la.length
    · obtain ⟨tk, htk⟩ : ∃ u, la[i]? = some u := ⟨_, List.getElem?_eq_getElem hlt⟩
      obtain ⟨bb, oo, _, _, _, _, rfl, hbb, _⟩ := a7.get htk
      obtain ⟨_, aok, capk, p0, p1, p2, p3, hvk⟩ := a7.cells htk
      unfold vval at hvk
      rw [Nat.zero_add] at p0 p1 p2 p3
      have hbb' := hP _ hbb
      have hblk : wr.heap[bb]? = w.heap[bb]? := (OW.out.block (by simp; omega) hbb'.2).trans (heap_alloc_old _ _ hbb'.1)
      have cc : ∀ j, wr.cell? ⟨bb, j, none⟩ = w.cell? ⟨bb, j, none⟩ := fun j => by simp [World.cell?, hblk]
      replace p0 := (cc _).trans p0
      replace p1 := (cc _).trans p1
      replace p2 := (cc _).trans p2
      replace p3 := (cc _).trans p3
      have hvk' : Hid (ValIs wr P tk (.agg #[.int .i64 tk.kind, .int .i64 tk.num, .string tk.text, .slice aok tk.kids.length capk])) := (hvk.below ((Below.refl _ _).alloc (Nat.le_refl _) _) (fun b hb => (hP b hb).1)).own OW.out (fun b hb => ⟨by have := (hP b hb).1; simp; omega, (hP b hb).2⟩)
      have HPB : Hid (∀ x, P x → x < wr.heap.size ∧ u0.ownBlock ≠ some x) := fun x hx => ⟨by have := (hP x hx).1; have := OW.out.size; simp at this; omega, OW.out.apart (by have := (hP x hx).1; simp; omega) (hP x hx).2⟩
      have hkid : Hid (tk.sz ≤ k) := by
        have h5 : tk.sz < (VT.node 5 na sa la).sz := VT.sz_kid (t := VT.node 5 na sa la) htk
        show tk.sz ≤ k; omega
      have hrk := Lib.hid (VT.rights_get hrs.out htk)
      have hdrop := Lib.hid (VT.drop_kid htk)
      have g1' : (i : Int) < (la.length : Int) := by omega
      have hi0 : (0 : Int) ≤ (i : Int) := by omega
      have hNr : Hid (N ≤ wr.heap.size) := by have := OW.out.size; simp at this; show N ≤ wr.heap.size; omega
      clear hvk htk cc hblk
      go_wp2_with ((go_at_call 141; refine (ih tk _ _ P (d + 1) N u0 b' hkid.out hrk.out (hvk'.out.below ((Below.refl _ _).alloc (Nat.le_refl _) _) (fun b hb => (HPB.out b hb).1)) (fun x hx => ⟨by have := (HPB.out x hx).1; simp; omega, (HPB.out x hx).2⟩) (HROW.out.below ((Below.refl _ _).alloc (Nat.le_refl _) _)) (by have := hNr.out; simp; omega) HBL.out).mono ?_; rintro e w7 ⟨v7, rfl, hr7, ho7⟩; have HR7 := Lib.hid hr7; have HO7 := Lib.hid ho7; clear hr7 ho7))
      go_roundg (gk - 1)
      case measure => omega
      case rel => exact ⟨i + 1, _, by go_num, by omega, HR7.out, by rw [HPUT.out, hdrop.out, VT.puts_cons], by have := VT.put_len (L := 16384) tk b' (d + 1) hrk.out; have := HBL.out; omega, HOWN.out.trans ((OwnStep.made u0 ((Below.refl _ _).alloc (Nat.le_refl _) _)).trans HO7.out)⟩
    · obtain rfl : i = la.length := by omega
      go_wp2
      go_ret
      refine PutEnd.boxed (o := .cells #[.int .i64 5, .int .i64 na, .string sa, .slice ao la.length cap] 33) ⟨_, rfl, ?_, OW.out⟩ (fun k hk => HR.out.lt hk)
      rw [hpt.out, HPUT.out, List.drop_length, VT.puts_nil]
      exact HROW.out

include ih in
set_option maxRecDepth 100000 in
set_option maxHeartbeats 3200000 in
theorem put_4 (na : Int) (sa : ByteArray) (la : List VT) (w : World) (P : Nat → Prop) (d : Int) (N : Nat) (v : Value) (b : List UInt8) (ao : Option Addr) (cap : Nat) (hk : (VT.node 4 na sa la).sz ≤ k + 1) (hr : (VT.node 4 na sa la).right d = true)
    (a1 : la.length ≤ cap) (a2 : cap ≤ maxLen) (a7 : KidsAt w P la ao 0) (hP : ∀ x, P x → x < w.heap.size ∧ v.ownBlock ≠ some x) (hrow : ByteRow w N v b) (hN : N ≤ w.heap.size) (hb : b.length ≤ 16384) :
    Calls Tryz.prog 141 #[v, .agg #[.int .i64 4, .int .i64 na, .string sa, .slice ao la.length cap]] w (PutEnd w N v ((VT.node 4 na sa la).put 16384 b)) := by
  obtain ⟨hf, hrs', hd⟩ := VT.right_parts hr
  have hrs := Lib.hid hrs'
  have HR := Lib.hid hrow
  obtain ⟨ao0, cap0, rfl, hc0, hc1⟩ := hrow.form
  unfold maxLen at a2 hc1
  have hfp := fits_parts hf
  have HT := Lib.hid (topOf_len hf)
  have hpt : Hid ((VT.node 4 na sa la).put 16384 b = VT.puts 16384 la (b ++ num 4 ++ topOf 4 na sa la.length)) := by show _ = _; rw [VT.put_node, if_neg (by omega)]
  have HB1 : Hid (ByteRow (w.alloc (.cells #[.int .i64 4, .int .i64 na, .string sa, .slice ao la.length cap] 33)) N (.slice ao0 b.length cap0) b) := hrow.below ((Below.refl _ _).alloc (Nat.le_refl _) _)
  have hnk := Lib.hid (num_len (n := 4) (by omega) (by omega))
  have HNK : Hid (∀ W, Calls Tryz.prog 90 #[.int .i64 4] W (RowEnd W W.heap.size (num 4))) := fun W => wireNum_any 4 W (by omega) (by omega)
  have hvo : Hid ((Value.slice ao0 b.length cap0).ownBlock ≠ some w.heap.size) := fun e => by have := HR.out.lt e; omega
  clear hrow hr hrs'
  have hb2 : (b.length : Int) ≤ 16384 := by omega
  have hna := Lib.hid (num_len (n := (la.length : Int)) (by omega) (by omega))
  have HNA : Hid (∀ W, Calls Tryz.prog 90 #[.int .i64 (la.length : Int)] W (RowEnd W W.heap.size (num (la.length : Int)))) := fun W => wireNum_any (la.length : Int) W (by omega) (by omega)
  go_enter Tryz.func141, Tryz.ntmps141
  go_wp2_with
    (first
     | ((go_at_call 90; refine (HNK.out _).mono ?_; rintro e w5 ⟨v5, rfl, hr5, hb5⟩; have R5 := Lib.hid hr5; have B5 := Lib.hid hb5; clear hr5 hb5 HNK))
     | ((go_at_call 90; refine (HNA.out _).mono ?_; rintro e w7 ⟨v7, rfl, hr7, hb7⟩; have R7 := Lib.hid hr7; have B7 := Lib.hid hb7; clear hr7 hb7))
     | (at_builtin; (refine wpList_appb (w := w5) rfl _ _ rfl (v := .slice ao0 b.length cap0) (vx := v5) rfl (HB1.out.below B5.out) rfl R5.out (num_ne _) (by have := B5.out.size; simp at this; omega) (by have := hnk.out; omega) ?_; intro v6 w6 hr6 ho6; have R6 := Lib.hid hr6; have O6 : Hid (OwnStep _ _ w6 v6) := (OwnStep.made _ B5.out).trans ho6; clear hr6 ho6; clear HB1; obtain ⟨c60, c61, c62, c63⟩ := box_cells O6.out hvo.out))
     | (at_builtin; (refine wpList_appb (w := w7) rfl _ _ rfl (v := v6) (vx := v7) rfl (R6.out.below B7.out) rfl R7.out (num_ne _) (by have := B7.out.size; have := O6.out.size; simp at this; omega) (by have := hnk.out; have := hna.out; rw [List.length_append]; omega) ?_; intro v8 w8 hr8 ho8; have R8 := Lib.hid hr8; have O8 : Hid (OwnStep _ _ w8 v8) := O6.out.trans ((OwnStep.made _ B7.out).trans ho8); clear hr8 ho8; obtain ⟨c80, c81, c82, c83⟩ := box_cells O8.out hvo.out)))
  have e : topOf 4 na sa la.length = num (la.length : Int) := by simp [topOf]
  have hbz : Hid ((b ++ num 4 ++ topOf 4 na sa la.length).length ≤ 100000) := by have := hnk.out; have := HT.out; show _ ≤ 100000; rw [List.length_append, List.length_append]; omega
  have RZ : Hid (ByteRow w8 N v8 (b ++ num 4 ++ topOf 4 na sa la.length)) := by show ByteRow _ _ _ _; rw [e]; exact R8.out
  clear e
  have hbox : Hid (w8.heap[w.heap.size]? = some (.cells #[.int .i64 4, .int .i64 na, .string sa, .slice ao la.length cap] 33 (0, 0))) := (O8.out.block (by simp) (fun e => by have := HR.out.lt e; omega)).trans (heap_alloc_new w _)
  have HL : Hid (PutLoop N w8 v8 16384 la (b ++ num 4 ++ topOf 4 na sa la.length) la.length v8 (.int .i64 0) w8) := ⟨0, (b ++ num 4 ++ topOf 4 na sa la.length), rfl, by omega, RZ.out, rfl, hbz.out, OwnStep.refl _ _⟩
  go_loopg [0, 57] la.length (fun k s0 s1 wr => PutLoop N w8 v8 16384 la (b ++ num 4 ++ topOf 4 na sa la.length) k s0 s1 wr)
  case atStart => exact HL.out
  case round =>
    clear HL
    obtain ⟨i, b', rfl, hik, hrow, hput, hbl, hown⟩ := hrel
    have HROW := Lib.hid hrow
    have HPUT := Lib.hid hput
    have HBL := Lib.hid hbl
    have HOWN := Lib.hid hown
    have OW : Hid (OwnStep (w.alloc (.cells #[.int .i64 4, .int .i64 na, .string sa, .slice ao la.length cap] 33)) (.slice ao0 b.length cap0) wr u0) := O8.out.trans hown
    clear hrow hput hbl hown
    by_cases hlt : i < la.length
    · obtain ⟨tk, htk⟩ : ∃ u, la[i]? = some u := ⟨_, List.getElem?_eq_getElem hlt⟩
      obtain ⟨bb, oo, _, _, _, _, rfl, hbb, _⟩ := a7.get htk
      obtain ⟨_, aok, capk, p0, p1, p2, p3, hvk⟩ := a7.cells htk
      unfold vval at hvk
      rw [Nat.zero_add] at p0 p1 p2 p3
      have hbb' := hP _ hbb
      have hblk : wr.heap[bb]? = w.heap[bb]? := (OW.out.block (by simp; omega) hbb'.2).trans (heap_alloc_old _ _ hbb'.1)
      have cc : ∀ j, wr.cell? ⟨bb, j, none⟩ = w.cell? ⟨bb, j, none⟩ := fun j => by simp [World.cell?, hblk]
      replace p0 := (cc _).trans p0
      replace p1 := (cc _).trans p1
      replace p2 := (cc _).trans p2
      replace p3 := (cc _).trans p3
      have hvk' : Hid (ValIs wr P tk (.agg #[.int .i64 tk.kind, .int .i64 tk.num, .string tk.text, .slice aok tk.kids.length capk])) := (hvk.below ((Below.refl _ _).alloc (Nat.le_refl _) _) (fun b hb => (hP b hb).1)).own OW.out (fun b hb => ⟨by have := (hP b hb).1; simp; omega, (hP b hb).2⟩)
      have HPB : Hid (∀ x, P x → x < wr.heap.size ∧ u0.ownBlock ≠ some x) := fun x hx => ⟨by have := (hP x hx).1; have := OW.out.size; simp at this; omega, OW.out.apart (by have := (hP x hx).1; simp; omega) (hP x hx).2⟩
      have hkid : Hid (tk.sz ≤ k) := by
        have h5 : tk.sz < (VT.node 4 na sa la).sz := VT.sz_kid (t := VT.node 4 na sa la) htk
        show tk.sz ≤ k; omega
      have hrk := Lib.hid (VT.rights_get hrs.out htk)
      have hdrop := Lib.hid (VT.drop_kid htk)
      have g1' : (i : Int) < (la.length : Int) := by omega
      have hi0 : (0 : Int) ≤ (i : Int) := by omega
      have hNr : Hid (N ≤ wr.heap.size) := by have := OW.out.size; simp at this; show N ≤ wr.heap.size; omega
      clear hvk htk cc hblk
      go_wp2_with ((go_at_call 141; refine (ih tk _ _ P (d + 1) N u0 b' hkid.out hrk.out (hvk'.out.below ((Below.refl _ _).alloc (Nat.le_refl _) _) (fun b hb => (HPB.out b hb).1)) (fun x hx => ⟨by have := (HPB.out x hx).1; simp; omega, (HPB.out x hx).2⟩) (HROW.out.below ((Below.refl _ _).alloc (Nat.le_refl _) _)) (by have := hNr.out; simp; omega) HBL.out).mono ?_; rintro e w7 ⟨v7, rfl, hr7, ho7⟩; have HR7 := Lib.hid hr7; have HO7 := Lib.hid ho7; clear hr7 ho7))
      go_roundg (gk - 1)
      case measure => omega
      case rel => exact ⟨i + 1, _, by go_num, by omega, HR7.out, by rw [HPUT.out, hdrop.out, VT.puts_cons], by have := VT.put_len (L := 16384) tk b' (d + 1) hrk.out; have := HBL.out; omega, HOWN.out.trans ((OwnStep.made u0 ((Below.refl _ _).alloc (Nat.le_refl _) _)).trans HO7.out)⟩
    · obtain rfl : i = la.length := by omega
      go_wp2
      go_ret
      refine PutEnd.boxed (o := .cells #[.int .i64 4, .int .i64 na, .string sa, .slice ao la.length cap] 33) ⟨_, rfl, ?_, OW.out⟩ (fun k hk => HR.out.lt hk)
      rw [hpt.out, HPUT.out, List.drop_length, VT.puts_nil]
      exact HROW.out

include ih in
set_option maxRecDepth 100000 in
set_option maxHeartbeats 3200000 in
theorem put_1 (na : Int) (sa : ByteArray) (la : List VT) (w : World) (P : Nat → Prop) (d : Int) (N : Nat) (v : Value) (b : List UInt8) (ao : Option Addr) (cap : Nat) (hk : (VT.node 1 na sa la).sz ≤ k + 1) (hr : (VT.node 1 na sa la).right d = true)
    (a1 : la.length ≤ cap) (a2 : cap ≤ maxLen) (a7 : KidsAt w P la ao 0) (hP : ∀ x, P x → x < w.heap.size ∧ v.ownBlock ≠ some x) (hrow : ByteRow w N v b) (hN : N ≤ w.heap.size) (hb : b.length ≤ 16384) :
    Calls Tryz.prog 141 #[v, .agg #[.int .i64 1, .int .i64 na, .string sa, .slice ao la.length cap]] w (PutEnd w N v ((VT.node 1 na sa la).put 16384 b)) := by
  obtain ⟨hf, hrs', hd⟩ := VT.right_parts hr
  have hrs := Lib.hid hrs'
  have HR := Lib.hid hrow
  obtain ⟨ao0, cap0, rfl, hc0, hc1⟩ := hrow.form
  unfold maxLen at a2 hc1
  have hfp := fits_parts hf
  have HT := Lib.hid (topOf_len hf)
  have hpt : Hid ((VT.node 1 na sa la).put 16384 b = VT.puts 16384 la (b ++ num 1 ++ topOf 1 na sa la.length)) := by show _ = _; rw [VT.put_node, if_neg (by omega)]
  have HB1 : Hid (ByteRow (w.alloc (.cells #[.int .i64 1, .int .i64 na, .string sa, .slice ao la.length cap] 33)) N (.slice ao0 b.length cap0) b) := hrow.below ((Below.refl _ _).alloc (Nat.le_refl _) _)
  have hnk := Lib.hid (num_len (n := 1) (by omega) (by omega))
  have HNK : Hid (∀ W, Calls Tryz.prog 90 #[.int .i64 1] W (RowEnd W W.heap.size (num 1))) := fun W => wireNum_any 1 W (by omega) (by omega)
  have hvo : Hid ((Value.slice ao0 b.length cap0).ownBlock ≠ some w.heap.size) := fun e => by have := HR.out.lt e; omega
  clear hrow hr hrs'
  have hb2 : (b.length : Int) ≤ 16384 := by omega
  have hna := Lib.hid (str_len (s := sa.data.toList) (by simp; omega))
  have hsl : sa.data.toList.length = sa.size := by simp
  rw [hsl] at hna
  have HNA : Hid (∀ W, Calls Tryz.prog 92 #[.string sa] W (RowEnd W W.heap.size (str sa.data.toList))) := fun W => wireStr_any sa W (by omega)
  clear hsl
  go_enter Tryz.func141, Tryz.ntmps141
  go_wp2_with
    (first
     | ((go_at_call 90; refine (HNK.out _).mono ?_; rintro e w5 ⟨v5, rfl, hr5, hb5⟩; have R5 := Lib.hid hr5; have B5 := Lib.hid hb5; clear hr5 hb5 HNK))
     | ((go_at_call 92; refine (HNA.out _).mono ?_; rintro e w7 ⟨v7, rfl, hr7, hb7⟩; have R7 := Lib.hid hr7; have B7 := Lib.hid hb7; clear hr7 hb7))
     | (at_builtin; (refine wpList_appb (w := w5) rfl _ _ rfl (v := .slice ao0 b.length cap0) (vx := v5) rfl (HB1.out.below B5.out) rfl R5.out (num_ne _) (by have := B5.out.size; simp at this; omega) (by have := hnk.out; omega) ?_; intro v6 w6 hr6 ho6; have R6 := Lib.hid hr6; have O6 : Hid (OwnStep _ _ w6 v6) := (OwnStep.made _ B5.out).trans ho6; clear hr6 ho6; clear HB1; obtain ⟨c60, c61, c62, c63⟩ := box_cells O6.out hvo.out))
     | (at_builtin; (refine wpList_appb (w := w7) rfl _ _ rfl (v := v6) (vx := v7) rfl (R6.out.below B7.out) rfl R7.out (str_ne _) (by have := B7.out.size; have := O6.out.size; simp at this; omega) (by have := hnk.out; have := hna.out; rw [List.length_append]; omega) ?_; intro v8 w8 hr8 ho8; have R8 := Lib.hid hr8; have O8 : Hid (OwnStep _ _ w8 v8) := O6.out.trans ((OwnStep.made _ B7.out).trans ho8); clear hr8 ho8; obtain ⟨c80, c81, c82, c83⟩ := box_cells O8.out hvo.out)))
  have e : topOf 1 na sa la.length = str sa.data.toList := by simp [topOf]
  have hbz : Hid ((b ++ num 1 ++ topOf 1 na sa la.length).length ≤ 100000) := by have := hnk.out; have := HT.out; show _ ≤ 100000; rw [List.length_append, List.length_append]; omega
  have RZ : Hid (ByteRow w8 N v8 (b ++ num 1 ++ topOf 1 na sa la.length)) := by show ByteRow _ _ _ _; rw [e]; exact R8.out
  clear e
  have hbox : Hid (w8.heap[w.heap.size]? = some (.cells #[.int .i64 1, .int .i64 na, .string sa, .slice ao la.length cap] 33 (0, 0))) := (O8.out.block (by simp) (fun e => by have := HR.out.lt e; omega)).trans (heap_alloc_new w _)
  have HL : Hid (PutLoop N w8 v8 16384 la (b ++ num 1 ++ topOf 1 na sa la.length) la.length v8 (.int .i64 0) w8) := ⟨0, (b ++ num 1 ++ topOf 1 na sa la.length), rfl, by omega, RZ.out, rfl, hbz.out, OwnStep.refl _ _⟩
  go_loopg [0, 57] la.length (fun k s0 s1 wr => PutLoop N w8 v8 16384 la (b ++ num 1 ++ topOf 1 na sa la.length) k s0 s1 wr)
  case atStart => exact HL.out
  case round =>
    clear HL
    obtain ⟨i, b', rfl, hik, hrow, hput, hbl, hown⟩ := hrel
    have HROW := Lib.hid hrow
    have HPUT := Lib.hid hput
    have HBL := Lib.hid hbl
    have HOWN := Lib.hid hown
    have OW : Hid (OwnStep (w.alloc (.cells #[.int .i64 1, .int .i64 na, .string sa, .slice ao la.length cap] 33)) (.slice ao0 b.length cap0) wr u0) := O8.out.trans hown
    clear hrow hput hbl hown
    by_cases hlt : i < la.length
    · obtain ⟨tk, htk⟩ : ∃ u, la[i]? = some u := ⟨_, List.getElem?_eq_getElem hlt⟩
      obtain ⟨bb, oo, _, _, _, _, rfl, hbb, _⟩ := a7.get htk
      obtain ⟨_, aok, capk, p0, p1, p2, p3, hvk⟩ := a7.cells htk
      unfold vval at hvk
      rw [Nat.zero_add] at p0 p1 p2 p3
      have hbb' := hP _ hbb
      have hblk : wr.heap[bb]? = w.heap[bb]? := (OW.out.block (by simp; omega) hbb'.2).trans (heap_alloc_old _ _ hbb'.1)
      have cc : ∀ j, wr.cell? ⟨bb, j, none⟩ = w.cell? ⟨bb, j, none⟩ := fun j => by simp [World.cell?, hblk]
      replace p0 := (cc _).trans p0
      replace p1 := (cc _).trans p1
      replace p2 := (cc _).trans p2
      replace p3 := (cc _).trans p3
      have hvk' : Hid (ValIs wr P tk (.agg #[.int .i64 tk.kind, .int .i64 tk.num, .string tk.text, .slice aok tk.kids.length capk])) := (hvk.below ((Below.refl _ _).alloc (Nat.le_refl _) _) (fun b hb => (hP b hb).1)).own OW.out (fun b hb => ⟨by have := (hP b hb).1; simp; omega, (hP b hb).2⟩)
      have HPB : Hid (∀ x, P x → x < wr.heap.size ∧ u0.ownBlock ≠ some x) := fun x hx => ⟨by have := (hP x hx).1; have := OW.out.size; simp at this; omega, OW.out.apart (by have := (hP x hx).1; simp; omega) (hP x hx).2⟩
      have hkid : Hid (tk.sz ≤ k) := by
        have h5 : tk.sz < (VT.node 1 na sa la).sz := VT.sz_kid (t := VT.node 1 na sa la) htk
        show tk.sz ≤ k; omega
      have hrk := Lib.hid (VT.rights_get hrs.out htk)
      have hdrop := Lib.hid (VT.drop_kid htk)
      have g1' : (i : Int) < (la.length : Int) := by omega
      have hi0 : (0 : Int) ≤ (i : Int) := by omega
      have hNr : Hid (N ≤ wr.heap.size) := by have := OW.out.size; simp at this; show N ≤ wr.heap.size; omega
      clear hvk htk cc hblk
      go_wp2_with ((go_at_call 141; refine (ih tk _ _ P (d + 1) N u0 b' hkid.out hrk.out (hvk'.out.below ((Below.refl _ _).alloc (Nat.le_refl _) _) (fun b hb => (HPB.out b hb).1)) (fun x hx => ⟨by have := (HPB.out x hx).1; simp; omega, (HPB.out x hx).2⟩) (HROW.out.below ((Below.refl _ _).alloc (Nat.le_refl _) _)) (by have := hNr.out; simp; omega) HBL.out).mono ?_; rintro e w7 ⟨v7, rfl, hr7, ho7⟩; have HR7 := Lib.hid hr7; have HO7 := Lib.hid ho7; clear hr7 ho7))
      go_roundg (gk - 1)
      case measure => omega
      case rel => exact ⟨i + 1, _, by go_num, by omega, HR7.out, by rw [HPUT.out, hdrop.out, VT.puts_cons], by have := VT.put_len (L := 16384) tk b' (d + 1) hrk.out; have := HBL.out; omega, HOWN.out.trans ((OwnStep.made u0 ((Below.refl _ _).alloc (Nat.le_refl _) _)).trans HO7.out)⟩
    · obtain rfl : i = la.length := by omega
      go_wp2
      go_ret
      refine PutEnd.boxed (o := .cells #[.int .i64 1, .int .i64 na, .string sa, .slice ao la.length cap] 33) ⟨_, rfl, ?_, OW.out⟩ (fun k hk => HR.out.lt hk)
      rw [hpt.out, HPUT.out, List.drop_length, VT.puts_nil]
      exact HROW.out

include ih in
set_option maxRecDepth 100000 in
set_option maxHeartbeats 3200000 in
theorem put_2 (na : Int) (sa : ByteArray) (la : List VT) (w : World) (P : Nat → Prop) (d : Int) (N : Nat) (v : Value) (b : List UInt8) (ao : Option Addr) (cap : Nat) (hk : (VT.node 2 na sa la).sz ≤ k + 1) (hr : (VT.node 2 na sa la).right d = true)
    (a1 : la.length ≤ cap) (a2 : cap ≤ maxLen) (a7 : KidsAt w P la ao 0) (hP : ∀ x, P x → x < w.heap.size ∧ v.ownBlock ≠ some x) (hrow : ByteRow w N v b) (hN : N ≤ w.heap.size) (hb : b.length ≤ 16384) :
    Calls Tryz.prog 141 #[v, .agg #[.int .i64 2, .int .i64 na, .string sa, .slice ao la.length cap]] w (PutEnd w N v ((VT.node 2 na sa la).put 16384 b)) := by
  obtain ⟨hf, hrs', hd⟩ := VT.right_parts hr
  have hrs := Lib.hid hrs'
  have HR := Lib.hid hrow
  obtain ⟨ao0, cap0, rfl, hc0, hc1⟩ := hrow.form
  unfold maxLen at a2 hc1
  have hfp := fits_parts hf
  have HT := Lib.hid (topOf_len hf)
  have hpt : Hid ((VT.node 2 na sa la).put 16384 b = VT.puts 16384 la (b ++ num 2 ++ topOf 2 na sa la.length)) := by show _ = _; rw [VT.put_node, if_neg (by omega)]
  have HB1 : Hid (ByteRow (w.alloc (.cells #[.int .i64 2, .int .i64 na, .string sa, .slice ao la.length cap] 33)) N (.slice ao0 b.length cap0) b) := hrow.below ((Below.refl _ _).alloc (Nat.le_refl _) _)
  have hnk := Lib.hid (num_len (n := 2) (by omega) (by omega))
  have HNK : Hid (∀ W, Calls Tryz.prog 90 #[.int .i64 2] W (RowEnd W W.heap.size (num 2))) := fun W => wireNum_any 2 W (by omega) (by omega)
  have hvo : Hid ((Value.slice ao0 b.length cap0).ownBlock ≠ some w.heap.size) := fun e => by have := HR.out.lt e; omega
  clear hrow hr hrs'
  have hb2 : (b.length : Int) ≤ 16384 := by omega
  have hna := Lib.hid (str_len (s := sa.data.toList) (by simp; omega))
  have hsl : sa.data.toList.length = sa.size := by simp
  rw [hsl] at hna
  have HNA : Hid (∀ W, Calls Tryz.prog 92 #[.string sa] W (RowEnd W W.heap.size (str sa.data.toList))) := fun W => wireStr_any sa W (by omega)
  clear hsl
  go_enter Tryz.func141, Tryz.ntmps141
  go_wp2_with
    (first
     | ((go_at_call 90; refine (HNK.out _).mono ?_; rintro e w5 ⟨v5, rfl, hr5, hb5⟩; have R5 := Lib.hid hr5; have B5 := Lib.hid hb5; clear hr5 hb5 HNK))
     | ((go_at_call 92; refine (HNA.out _).mono ?_; rintro e w7 ⟨v7, rfl, hr7, hb7⟩; have R7 := Lib.hid hr7; have B7 := Lib.hid hb7; clear hr7 hb7))
     | (at_builtin; (refine wpList_appb (w := w5) rfl _ _ rfl (v := .slice ao0 b.length cap0) (vx := v5) rfl (HB1.out.below B5.out) rfl R5.out (num_ne _) (by have := B5.out.size; simp at this; omega) (by have := hnk.out; omega) ?_; intro v6 w6 hr6 ho6; have R6 := Lib.hid hr6; have O6 : Hid (OwnStep _ _ w6 v6) := (OwnStep.made _ B5.out).trans ho6; clear hr6 ho6; clear HB1; obtain ⟨c60, c61, c62, c63⟩ := box_cells O6.out hvo.out))
     | (at_builtin; (refine wpList_appb (w := w7) rfl _ _ rfl (v := v6) (vx := v7) rfl (R6.out.below B7.out) rfl R7.out (str_ne _) (by have := B7.out.size; have := O6.out.size; simp at this; omega) (by have := hnk.out; have := hna.out; rw [List.length_append]; omega) ?_; intro v8 w8 hr8 ho8; have R8 := Lib.hid hr8; have O8 : Hid (OwnStep _ _ w8 v8) := O6.out.trans ((OwnStep.made _ B7.out).trans ho8); clear hr8 ho8; obtain ⟨c80, c81, c82, c83⟩ := box_cells O8.out hvo.out)))
  have e : topOf 2 na sa la.length = str sa.data.toList := by simp [topOf]
  have hbz : Hid ((b ++ num 2 ++ topOf 2 na sa la.length).length ≤ 100000) := by have := hnk.out; have := HT.out; show _ ≤ 100000; rw [List.length_append, List.length_append]; omega
  have RZ : Hid (ByteRow w8 N v8 (b ++ num 2 ++ topOf 2 na sa la.length)) := by show ByteRow _ _ _ _; rw [e]; exact R8.out
  clear e
  have hbox : Hid (w8.heap[w.heap.size]? = some (.cells #[.int .i64 2, .int .i64 na, .string sa, .slice ao la.length cap] 33 (0, 0))) := (O8.out.block (by simp) (fun e => by have := HR.out.lt e; omega)).trans (heap_alloc_new w _)
  have HL : Hid (PutLoop N w8 v8 16384 la (b ++ num 2 ++ topOf 2 na sa la.length) la.length v8 (.int .i64 0) w8) := ⟨0, (b ++ num 2 ++ topOf 2 na sa la.length), rfl, by omega, RZ.out, rfl, hbz.out, OwnStep.refl _ _⟩
  go_loopg [0, 57] la.length (fun k s0 s1 wr => PutLoop N w8 v8 16384 la (b ++ num 2 ++ topOf 2 na sa la.length) k s0 s1 wr)
  case atStart => exact HL.out
  case round =>
    clear HL
    obtain ⟨i, b', rfl, hik, hrow, hput, hbl, hown⟩ := hrel
    have HROW := Lib.hid hrow
    have HPUT := Lib.hid hput
    have HBL := Lib.hid hbl
    have HOWN := Lib.hid hown
    have OW : Hid (OwnStep (w.alloc (.cells #[.int .i64 2, .int .i64 na, .string sa, .slice ao la.length cap] 33)) (.slice ao0 b.length cap0) wr u0) := O8.out.trans hown
    clear hrow hput hbl hown
    by_cases hlt : i < la.length
    · obtain ⟨tk, htk⟩ : ∃ u, la[i]? = some u := ⟨_, List.getElem?_eq_getElem hlt⟩
      obtain ⟨bb, oo, _, _, _, _, rfl, hbb, _⟩ := a7.get htk
      obtain ⟨_, aok, capk, p0, p1, p2, p3, hvk⟩ := a7.cells htk
      unfold vval at hvk
      rw [Nat.zero_add] at p0 p1 p2 p3
      have hbb' := hP _ hbb
      have hblk : wr.heap[bb]? = w.heap[bb]? := (OW.out.block (by simp; omega) hbb'.2).trans (heap_alloc_old _ _ hbb'.1)
      have cc : ∀ j, wr.cell? ⟨bb, j, none⟩ = w.cell? ⟨bb, j, none⟩ := fun j => by simp [World.cell?, hblk]
      replace p0 := (cc _).trans p0
      replace p1 := (cc _).trans p1
      replace p2 := (cc _).trans p2
      replace p3 := (cc _).trans p3
      have hvk' : Hid (ValIs wr P tk (.agg #[.int .i64 tk.kind, .int .i64 tk.num, .string tk.text, .slice aok tk.kids.length capk])) := (hvk.below ((Below.refl _ _).alloc (Nat.le_refl _) _) (fun b hb => (hP b hb).1)).own OW.out (fun b hb => ⟨by have := (hP b hb).1; simp; omega, (hP b hb).2⟩)
      have HPB : Hid (∀ x, P x → x < wr.heap.size ∧ u0.ownBlock ≠ some x) := fun x hx => ⟨by have := (hP x hx).1; have := OW.out.size; simp at this; omega, OW.out.apart (by have := (hP x hx).1; simp; omega) (hP x hx).2⟩
      have hkid : Hid (tk.sz ≤ k) := by
        have h5 : tk.sz < (VT.node 2 na sa la).sz := VT.sz_kid (t := VT.node 2 na sa la) htk
        show tk.sz ≤ k; omega
      have hrk := Lib.hid (VT.rights_get hrs.out htk)
      have hdrop := Lib.hid (VT.drop_kid htk)
      have g1' : (i : Int) < (la.length : Int) := by omega
      have hi0 : (0 : Int) ≤ (i : Int) := by omega
      have hNr : Hid (N ≤ wr.heap.size) := by have := OW.out.size; simp at this; show N ≤ wr.heap.size; omega
      clear hvk htk cc hblk
      go_wp2_with ((go_at_call 141; refine (ih tk _ _ P (d + 1) N u0 b' hkid.out hrk.out (hvk'.out.below ((Below.refl _ _).alloc (Nat.le_refl _) _) (fun b hb => (HPB.out b hb).1)) (fun x hx => ⟨by have := (HPB.out x hx).1; simp; omega, (HPB.out x hx).2⟩) (HROW.out.below ((Below.refl _ _).alloc (Nat.le_refl _) _)) (by have := hNr.out; simp; omega) HBL.out).mono ?_; rintro e w7 ⟨v7, rfl, hr7, ho7⟩; have HR7 := Lib.hid hr7; have HO7 := Lib.hid ho7; clear hr7 ho7))
      go_roundg (gk - 1)
      case measure => omega
      case rel => exact ⟨i + 1, _, by go_num, by omega, HR7.out, by rw [HPUT.out, hdrop.out, VT.puts_cons], by have := VT.put_len (L := 16384) tk b' (d + 1) hrk.out; have := HBL.out; omega, HOWN.out.trans ((OwnStep.made u0 ((Below.refl _ _).alloc (Nat.le_refl _) _)).trans HO7.out)⟩
    · obtain rfl : i = la.length := by omega
      go_wp2
      go_ret
      refine PutEnd.boxed (o := .cells #[.int .i64 2, .int .i64 na, .string sa, .slice ao la.length cap] 33) ⟨_, rfl, ?_, OW.out⟩ (fun k hk => HR.out.lt hk)
      rw [hpt.out, HPUT.out, List.drop_length, VT.puts_nil]
      exact HROW.out
end
end Go.Proofs.YtcpgbekcbaelpaaGreatDoor
/- Steps of a region that draws its order: a call that makes memory, an append of bytes that were just made. -/
namespace Go.Proofs.YtcpgbekcbaelpaaGreatDoor
open Go.RowKit Go.Maps Wr

theorem step_callw {P : Program} {ops : Array Oper} {o : Oper} {a : Act} {w : World} {K : Act → World → Prop} {Q : Exit → Act → World → Prop} {E : Prop} {R : Ending → World → Prop} (hgd : o.guard = none) (f : FuncId) (args : Array Value)
    (hrun : (execOp a.eval o).run P w = .ok (.enter f args) w) (hc : Calls P f args w R) (hK : ∀ e w', R e w' → ∃ v, e = .returned v ∧ K (a.put o.dst v) w') : if Region.wanted o (yielded ops a.tmps) = true then Oper.wp P o a w K Q else E := by
  have hw : Region.wanted o (yielded ops a.tmps) = true := by simp [Region.wanted, hgd]
  rw [if_pos hw]
  unfold Oper.wp
  rw [hrun]
  simp only [Oper.upon]
  refine hc.mono ?_
  intro e w' h
  obtain ⟨v, rfl, hk⟩ := hK e w' h
  exact hk

theorem step_appb {w : World} {ops : Array Oper} {o : Oper} {a : Act} {K : Act → World → Prop} {Q : Exit → Act → World → Prop} {E : Prop} (hgd : o.guard = none) (s x : Operand)
    (ho : o.op = .call { callee := .builtin .append, args := #[s, x], argTypes := #[44, 44] }) {N M : Nat} {v vx : Value} {b l : List UInt8} (hs : a.eval s = v) (hr : ByteRow w N v b) (hx : a.eval x = vx) (hrx : ByteRow w M vx l) (hne : l ≠ []) (hN : N ≤ w.heap.size)
    (h63 : b.length + l.length ≤ 1000000000)
    (h : ∀ v' w', ByteRow w' N v' (b ++ l) → OwnStep w v w' v' → K (a.put o.dst v') w') : if Region.wanted o (yielded ops a.tmps) = true then Oper.wp Tryz.prog o a w K Q else E := by
  obtain ⟨i0, hi, hz0, hz1, hz2⟩ := info_parts infoB
  obtain ⟨g, cap, hvx, hg⟩ := hrx.shape hne
  have hrow := hrx.1
  rw [hvx] at hrow
  have hlp : 0 < l.length := by cases l; exact absurd rfl hne; simp
  refine step_append_lies w hgd s x 44 ho N 5 i0 (.int .u8 0) 1 1 Tryz.underlying44 hi hz0 hz1 hz2 rfl (by decide) v b.length (bvals b) hs hr.owns ⟨g, 0, none⟩ l.length cap (bvals l) (by rw [hx, hvx]) (by rw [bvals_length, Nat.mul_one]) (fun j u hj => ?_) (bvals_one l) hlp (by unfold maxLen; omega) (by omega) hN w.heap.size rfl ?_
  · have hj2 := (List.getElem?_eq_some_iff.1 hj).1
    rw [show (Addr.add ⟨g, 0, none⟩ j) = ⟨g, j, none⟩ by unfold Addr.add; split <;> simp_all]
    rw [hrow.cellAt j hj2]; exact hj
  · intro g' cap' w' hown hgr hloc _
    rw [← bvals_append] at hown
    refine h _ w' (ByteRow.of hown (by rw [List.length_append])) ⟨(Chg.refl _ w).grown hgr (fun k hk => .inl (by simp [hk])), ?_⟩
    rcases hloc with e | e
    · exact .inl e.symm
    · exact .inr ⟨g', rfl, by omega⟩
end Go.Proofs.YtcpgbekcbaelpaaGreatDoor
/- The program's put, of a constructor. -/
namespace Go.Proofs.YtcpgbekcbaelpaaGreatDoor
open Go.RowKit Go.Maps Wr
set_option linter.unusedVariables false

theorem ByteRow.aside {w w' : World} {M : Nat} {v v' x : Value} {l : List UInt8} (h : ByteRow w M x l) (hs : OwnStep w v w' v') (hx : ∀ k, x.ownBlock = some k → v.ownBlock ≠ some k) : ByteRow w' M x l :=
  ⟨h.1.chg hs.1 (fun k hk => by simpa using hx k hk), h.2⟩
theorem ByteRow.from {w : World} {M M' : Nat} {x : Value} {l : List UInt8} (h : ByteRow w M x l) (hM : M' ≤ M) : ByteRow w M' x l := ⟨h.1, fun k hk => Nat.le_trans hM (h.2 k hk)⟩

section
variable (L : Nat) (k : Nat) (ih : ∀ (t : VT) (vt : Value) (w : World) (P : Nat → Prop) (d : Int) (N : Nat) (v : Value) (b : List UInt8), t.sz ≤ k → t.right d = true → ValIs w P t vt → (∀ x, P x → x < w.heap.size ∧ v.ownBlock ≠ some x) → ByteRow w N v b → N ≤ w.heap.size → b.length ≤ 100000 →
    Calls Tryz.prog 141 #[v, vt] w (PutEnd w N v (t.put 16384 b)))
include ih in
set_option maxRecDepth 100000 in
set_option maxHeartbeats 3200000 in
theorem put_3 (na : Int) (sa : ByteArray) (la : List VT) (w : World) (P : Nat → Prop) (d : Int) (N : Nat) (v : Value) (b : List UInt8) (ao : Option Addr) (cap : Nat) (hk : (VT.node 3 na sa la).sz ≤ k + 1) (hr : (VT.node 3 na sa la).right d = true)
    (a1 : la.length ≤ cap) (a2 : cap ≤ maxLen) (a7 : KidsAt w P la ao 0) (hP : ∀ x, P x → x < w.heap.size ∧ v.ownBlock ≠ some x) (hrow : ByteRow w N v b) (hN : N ≤ w.heap.size) (hb : b.length ≤ 16384) :
    Calls Tryz.prog 141 #[v, .agg #[.int .i64 3, .int .i64 na, .string sa, .slice ao la.length cap]] w (PutEnd w N v ((VT.node 3 na sa la).put 16384 b)) := by
  obtain ⟨hf, hrs', hd⟩ := VT.right_parts hr
  have hrs := Lib.hid hrs'
  have HR := Lib.hid hrow
  obtain ⟨ao0, cap0, rfl, hc0, hc1⟩ := hrow.form
  unfold maxLen at a2 hc1
  have hfp := fits_parts hf
  have HT := Lib.hid (topOf_len hf)
  have hpt : Hid ((VT.node 3 na sa la).put 16384 b = VT.puts 16384 la (b ++ num 3 ++ topOf 3 na sa la.length)) := by show _ = _; rw [VT.put_node, if_neg (by omega)]
  have HB1 : Hid (ByteRow (w.alloc (.cells #[.int .i64 3, .int .i64 na, .string sa, .slice ao la.length cap] 33)) N (.slice ao0 b.length cap0) b) := hrow.below ((Below.refl _ _).alloc (Nat.le_refl _) _)
  have hnk := Lib.hid (num_len (n := 3) (by omega) (by omega))
  have HNK : Hid (∀ W, Calls Tryz.prog 90 #[.int .i64 3] W (RowEnd W W.heap.size (num 3))) := fun W => wireNum_any 3 W (by omega) (by omega)
  have hvo : Hid ((Value.slice ao0 b.length cap0).ownBlock ≠ some w.heap.size) := fun e => by have := HR.out.lt e; omega
  clear hrow hr hrs'
  have hb2 : (b.length : Int) ≤ 16384 := by omega
  have hna := Lib.hid (num_len (n := na) (by omega) (by omega))
  have HNA : Hid (∀ W, Calls Tryz.prog 90 #[.int .i64 na] W (RowEnd W W.heap.size (num na))) := fun W => wireNum_any na W (by omega) (by omega)
  have hnl := Lib.hid (num_len (n := (la.length : Int)) (by omega) (by omega))
  have HNL : Hid (∀ W, Calls Tryz.prog 90 #[.int .i64 (la.length : Int)] W (RowEnd W W.heap.size (num (la.length : Int)))) := fun W => wireNum_any (la.length : Int) W (by omega) (by omega)
  go_enter Tryz.func141, Tryz.ntmps141
  go_wp2_with
    (first
     | ((go_at_call 90; refine (HNK.out _).mono ?_; rintro e w5 ⟨v5, rfl, hr5, hb5⟩; have R5 := Lib.hid hr5; have B5 := Lib.hid hb5; clear hr5 hb5 HNK))
     | (at_builtin; (refine wpList_appb (w := w5) rfl _ _ rfl (v := .slice ao0 b.length cap0) (vx := v5) rfl (HB1.out.below B5.out) rfl R5.out (num_ne _) (by have := B5.out.size; simp at this; omega) (by have := hnk.out; omega) ?_; intro v6 w6 hr6 ho6; have R6 := Lib.hid hr6; have O6 : Hid (OwnStep _ _ w6 v6) := (OwnStep.made _ B5.out).trans ho6; clear hr6 ho6; clear HB1; obtain ⟨c60, c61, c62, c63⟩ := box_cells O6.out hvo.out)))
  have BC0 : Hid (Below w6.heap.size w6 w6.drew) := (Below.refl _ _).drew
  go_region_law (first
    | (refine step_callw (by rfl) 90 #[.int .i64 na] ?_ (HNA.out _) ?_; go_simp; rintro e w7 ⟨v7, rfl, hr7, hb7⟩; refine ⟨v7, rfl, ?_⟩; have R7 := Lib.hid hr7; have B7 := Lib.hid hb7; clear hr7 hb7 HNA; have BC7 : Hid (Below w6.heap.size w6 w7) := (by first | exact BC9.out.trans (B7.out.mono BC9.out.size) | exact BC0.out.trans (B7.out.mono BC0.out.size)); have O7 : Hid (OwnStep _ _ w7 v6) := O6.out.trans (OwnStep.made _ BC7.out); (try have R9' := Lib.hid (R9.out.below B7.out)); obtain ⟨c70, c71, c72, c73⟩ := box_cells O7.out hvo.out)
    | (refine step_callw (by rfl) 90 #[.int .i64 (la.length : Int)] ?_ (HNL.out _) ?_; go_simp; rintro e w9 ⟨v9, rfl, hr9, hb9⟩; refine ⟨v9, rfl, ?_⟩; have R9 := Lib.hid hr9; have B9 := Lib.hid hb9; clear hr9 hb9 HNL; (first
        | (have R8' := Lib.hid (R8.out.below B9.out); have O9 : Hid (OwnStep _ _ w9 v8) := O8.out.trans (OwnStep.made _ B9.out))
        | (have BC9 : Hid (Below w6.heap.size w6 w9) := (by first | exact BC7.out.trans (B9.out.mono BC7.out.size) | exact BC0.out.trans (B9.out.mono BC0.out.size)); have O9 : Hid (OwnStep _ _ w9 v6) := O6.out.trans (OwnStep.made _ BC9.out); (try have R7' := Lib.hid (R7.out.below B9.out)))); obtain ⟨c90, c91, c92, c93⟩ := box_cells O9.out hvo.out)
    | (refine step_appb (w := w7) (by rfl) _ _ rfl (v := v6) (vx := v7) rfl (R6.out.below BC7.out) rfl R7.out (num_ne _) (by have := BC7.out.size; have := O6.out.size; simp at this; omega) (by have := hnk.out; have := hna.out; rw [List.length_append]; omega) ?_; intro v8 w8 hr8 ho8; have R8 := Lib.hid hr8; have OA := Lib.hid ho8; have O8 : Hid (OwnStep _ _ w8 v8) := O7.out.trans ho8; clear hr8 ho8; (try have R9a := Lib.hid (R9'.out.aside OA.out (fun k hk e => by have := R9.out.2 k hk; have := R6.out.lt e; have := BC0.out.size; omega))); obtain ⟨c80, c81, c82, c83⟩ := box_cells O8.out hvo.out)
    | (refine step_appb (w := w9) (by rfl) _ _ rfl (v := v6) (vx := v7) rfl (R6.out.below BC9.out) rfl R7'.out (num_ne _) (by have := BC9.out.size; have := O6.out.size; simp at this; omega) (by have := hnk.out; have := hna.out; rw [List.length_append]; omega) ?_; intro v8 w8 hr8 ho8; have R8 := Lib.hid hr8; have OA := Lib.hid ho8; have O8 : Hid (OwnStep _ _ w8 v8) := O9.out.trans ho8; clear hr8 ho8; have R9a := Lib.hid (R9.out.aside OA.out (fun k hk e => by have := R9.out.2 k hk; have := R6.out.lt e; have := BC7.out.size; omega)); obtain ⟨c80, c81, c82, c83⟩ := box_cells O8.out hvo.out)
    | (refine step_appb (w := w8) (by rfl) _ _ rfl (v := v8) (vx := v9) rfl R8.out rfl R9a.out (num_ne _) (by have := O8.out.size; simp at this; omega) (by have := hnk.out; have := hna.out; have := hnl.out; rw [List.length_append, List.length_append]; omega) ?_; intro v10 w10 hr10 ho10; have R10 := Lib.hid hr10; have O10 : Hid (OwnStep _ _ w10 v10) := O8.out.trans ho10; clear hr10 ho10; obtain ⟨d0, d1, d2, d3⟩ := box_cells O10.out hvo.out)
    | (refine step_appb (w := w9) (by rfl) _ _ rfl (v := v8) (vx := v9) rfl R8'.out rfl R9.out (num_ne _) (by have := O9.out.size; simp at this; omega) (by have := hnk.out; have := hna.out; have := hnl.out; rw [List.length_append, List.length_append]; omega) ?_; intro v10 w10 hr10 ho10; have R10 := Lib.hid hr10; have O10 : Hid (OwnStep _ _ w10 v10) := O9.out.trans ho10; clear hr10 ho10; obtain ⟨d0, d1, d2, d3⟩ := box_cells O10.out hvo.out))
  all_goals (have hbz : Hid ((b ++ num 3 ++ topOf 3 na sa la.length).length ≤ 100000) := by have := hnk.out; have := HT.out; show _ ≤ 100000; rw [List.length_append, List.length_append]; omega)
  all_goals (have RZ : Hid (ByteRow w10 N v10 (b ++ num 3 ++ topOf 3 na sa la.length)) := by have e : topOf 3 na sa la.length = num na ++ num (la.length : Int) := by { simp [topOf] }; show ByteRow _ _ _ _; rw [e, ← List.append_assoc]; exact R10.out)
  all_goals go_wp2
  all_goals
    have hbox : Hid (w10.heap[w.heap.size]? = some (.cells #[.int .i64 3, .int .i64 na, .string sa, .slice ao la.length cap] 33 (0, 0))) := (O10.out.block (by simp) (fun e => by have := HR.out.lt e; omega)).trans (heap_alloc_new w _)
    have HL : Hid (PutLoop N w10 v10 16384 la (b ++ num 3 ++ topOf 3 na sa la.length) la.length v10 (.int .i64 0) w10) := ⟨0, (b ++ num 3 ++ topOf 3 na sa la.length), rfl, by omega, RZ.out, rfl, hbz.out, OwnStep.refl _ _⟩
    go_loopg [0, 57] la.length (fun k s0 s1 wr => PutLoop N w10 v10 16384 la (b ++ num 3 ++ topOf 3 na sa la.length) k s0 s1 wr)
    case atStart => exact HL.out
    case round =>
      clear HL
      obtain ⟨i, b', rfl, hik, hrow, hput, hbl, hown⟩ := hrel
      have HROW := Lib.hid hrow
      have HPUT := Lib.hid hput
      have HBL := Lib.hid hbl
      have HOWN := Lib.hid hown
      have OW : Hid (OwnStep (w.alloc (.cells #[.int .i64 3, .int .i64 na, .string sa, .slice ao la.length cap] 33)) (.slice ao0 b.length cap0) wr u0) := O10.out.trans hown
      clear hrow hput hbl hown
      by_cases hlt : i < la.length
      · obtain ⟨tk, htk⟩ : ∃ u, la[i]? = some u := ⟨_, List.getElem?_eq_getElem hlt⟩
        obtain ⟨bb, oo, _, _, _, _, rfl, hbb, _⟩ := a7.get htk
        obtain ⟨_, aok, capk, p0, p1, p2, p3, hvk⟩ := a7.cells htk
        unfold vval at hvk
        rw [Nat.zero_add] at p0 p1 p2 p3
        have hbb' := hP _ hbb
        have hblk : wr.heap[bb]? = w.heap[bb]? := (OW.out.block (by simp; omega) hbb'.2).trans (heap_alloc_old _ _ hbb'.1)
        have cc : ∀ j, wr.cell? ⟨bb, j, none⟩ = w.cell? ⟨bb, j, none⟩ := fun j => by simp [World.cell?, hblk]
        replace p0 := (cc _).trans p0
        replace p1 := (cc _).trans p1
        replace p2 := (cc _).trans p2
        replace p3 := (cc _).trans p3
        have hvk' : Hid (ValIs wr P tk (.agg #[.int .i64 tk.kind, .int .i64 tk.num, .string tk.text, .slice aok tk.kids.length capk])) := (hvk.below ((Below.refl _ _).alloc (Nat.le_refl _) _) (fun b hb => (hP b hb).1)).own OW.out (fun b hb => ⟨by have := (hP b hb).1; simp; omega, (hP b hb).2⟩)
        have HPB : Hid (∀ x, P x → x < wr.heap.size ∧ u0.ownBlock ≠ some x) := fun x hx => ⟨by have := (hP x hx).1; have := OW.out.size; simp at this; omega, OW.out.apart (by have := (hP x hx).1; simp; omega) (hP x hx).2⟩
        have hkid : Hid (tk.sz ≤ k) := by
          have h5 : tk.sz < (VT.node 3 na sa la).sz := VT.sz_kid (t := VT.node 3 na sa la) htk
          show tk.sz ≤ k; omega
        have hrk := Lib.hid (VT.rights_get hrs.out htk)
        have hdrop := Lib.hid (VT.drop_kid htk)
        have g1' : (i : Int) < (la.length : Int) := by omega
        have hi0 : (0 : Int) ≤ (i : Int) := by omega
        have hNr : Hid (N ≤ wr.heap.size) := by have := OW.out.size; simp at this; show N ≤ wr.heap.size; omega
        clear hvk htk cc hblk
        go_wp2_with ((go_at_call 141; refine (ih tk _ _ P (d + 1) N u0 b' hkid.out hrk.out (hvk'.out.below ((Below.refl _ _).alloc (Nat.le_refl _) _) (fun b hb => (HPB.out b hb).1)) (fun x hx => ⟨by have := (HPB.out x hx).1; simp; omega, (HPB.out x hx).2⟩) (HROW.out.below ((Below.refl _ _).alloc (Nat.le_refl _) _)) (by have := hNr.out; simp; omega) HBL.out).mono ?_; rintro e w7 ⟨v7, rfl, hr7, ho7⟩; have HR7 := Lib.hid hr7; have HO7 := Lib.hid ho7; clear hr7 ho7))
        go_roundg (gk - 1)
        case measure => omega
        case rel => exact ⟨i + 1, _, by go_num, by omega, HR7.out, by rw [HPUT.out, hdrop.out, VT.puts_cons], by have := VT.put_len (L := 16384) tk b' (d + 1) hrk.out; have := HBL.out; omega, HOWN.out.trans ((OwnStep.made u0 ((Below.refl _ _).alloc (Nat.le_refl _) _)).trans HO7.out)⟩
      · obtain rfl : i = la.length := by omega
        go_wp2
        go_ret
        refine PutEnd.boxed (o := .cells #[.int .i64 3, .int .i64 na, .string sa, .slice ao la.length cap] 33) ⟨_, rfl, ?_, OW.out⟩ (fun k hk => HR.out.lt hk)
        rw [hpt.out, HPUT.out, List.drop_length, VT.puts_nil]
        exact HROW.out
end
end Go.Proofs.YtcpgbekcbaelpaaGreatDoor
/- The program's put of every value in form. -/
namespace Go.Proofs.YtcpgbekcbaelpaaGreatDoor
open Go.RowKit Go.Maps Wr
set_option linter.unusedVariables false

set_option maxRecDepth 100000 in
theorem put_stop (t : VT) (vt : Value) (w : World) (P : Nat → Prop) (N : Nat) (v : Value) (b : List UInt8) (hv : ValIs w P t vt) (hrow : ByteRow w N v b) (hb : 16384 < b.length) :
    Calls Tryz.prog 141 #[v, vt] w (PutEnd w N v (t.put 16384 b)) := by
  obtain ⟨k0, na, sa, la⟩ := t
  unfold ValIs at hv
  obtain ⟨ao, cap, rfl, a1, a2, a3, a4, a5, a6, a7⟩ := hv
  have hpt : Hid ((VT.node k0 na sa la).put 16384 b = b) := by show _ = _; rw [VT.put_node, if_pos hb]
  have HR := Lib.hid hrow
  obtain ⟨ao0, cap0, rfl, hc0, hc1⟩ := hrow.form
  unfold maxLen at a2 hc1
  clear hrow a7
  have hb2 : (16384 : Int) < b.length := by omega
  go_enter Tryz.func141, Tryz.ntmps141
  go_wp2
  go_ret
  refine PutEnd.boxed (o := .cells #[.int .i64 k0, .int .i64 na, .string sa, .slice ao la.length cap] 33) ⟨_, rfl, ?_, OwnStep.refl _ _⟩ (fun k hk => HR.out.lt hk)
  rw [hpt.out]
  exact HR.out.below ((Below.refl _ _).alloc (Nat.le_refl _) _)

theorem put_walk : ∀ (k : Nat) (t : VT) (vt : Value) (w : World) (P : Nat → Prop) (d : Int) (N : Nat) (v : Value) (b : List UInt8), t.sz ≤ k → t.right d = true → ValIs w P t vt → (∀ x, P x → x < w.heap.size ∧ v.ownBlock ≠ some x) → ByteRow w N v b → N ≤ w.heap.size → b.length ≤ 100000 →
    Calls Tryz.prog 141 #[v, vt] w (PutEnd w N v (t.put 16384 b)) := by
  intro k
  induction k with
  | zero => intro t _ _ _ _ _ _ _ h; cases t; simp [VT.sz] at h
  | succ k ih =>
    intro t vt w P d N v b hk hr hv hP hrow hN hb
    by_cases hs : 16384 < b.length
    · exact put_stop t vt w P N v b hv hrow hs
    · obtain ⟨k0, na, sa, la⟩ := t
      unfold ValIs at hv
      obtain ⟨ao, cap, rfl, a1, a2, a3, a4, a5, a6, a7⟩ := hv
      have hs : b.length ≤ 16384 := by omega
      obtain ⟨h0, h6, _⟩ := fits_parts (VT.right_parts hr).1
      have h : k0 = 0 ∨ k0 = 1 ∨ k0 = 2 ∨ k0 = 3 ∨ k0 = 4 ∨ k0 = 5 ∨ k0 = 6 := by omega
      rcases h with rfl | rfl | rfl | rfl | rfl | rfl | rfl
      · exact put_0 k ih na sa la w P d N v b ao cap hk hr a1 a2 a7 hP hrow hN hs
      · exact put_1 k ih na sa la w P d N v b ao cap hk hr a1 a2 a7 hP hrow hN hs
      · exact put_2 k ih na sa la w P d N v b ao cap hk hr a1 a2 a7 hP hrow hN hs
      · exact put_3 k ih na sa la w P d N v b ao cap hk hr a1 a2 a7 hP hrow hN hs
      · exact put_4 k ih na sa la w P d N v b ao cap hk hr a1 a2 a7 hP hrow hN hs
      · exact put_5 k ih na sa la w P d N v b ao cap hk hr a1 a2 a7 hP hrow hN hs
      · exact put_6 k ih na sa la w P d N v b ao cap hk hr a1 a2 a7 hP hrow hN hs
end Go.Proofs.YtcpgbekcbaelpaaGreatDoor
/- The program's fits: a node in form, but for its kids. -/
namespace Go.Proofs.YtcpgbekcbaelpaaGreatDoor
open Go.RowKit Go.Maps Wr
set_option linter.unusedVariables false

def bareB (x y : Bool) (n : Int) (s : ByteArray) (m : Nat) : Bool := (x || decide (n = 0)) && (y || emptyB s) && decide (m = 0)
section
variable (n : Int) (s : ByteArray) (ao : Option Addr) (m cap : Nat) (w : World)
set_option maxRecDepth 100000 in
set_option maxHeartbeats 1600000 in
theorem bare_any (k : Int) (x y : Bool) (hs : s.size ≤ maxLen) (hm : m ≤ cap) (hcap : cap ≤ maxLen) :
    Calls Tryz.prog 200 #[.agg #[.int .i64 k, .int .i64 n, .string s, .slice ao m cap], .bool x, .bool y] w fun e w' => e = .returned (.bool (bareB x y n s m)) ∧ Below w.heap.size w w' := by
  have hE1 := empty1 s
  have hE2 := empty2 s
  unfold maxLen at hs hcap
  cases x <;> cases y
  all_goals
    go_enter Tryz.func200, Tryz.ntmps200
    go_wp2
  all_goals
    go_ret
    refine ⟨ret_bool ?_, (Below.refl _ _).alloc (Nat.le_refl _) _⟩
    rw [Bool.eq_iff_iff]
    simp [bareB, *]
    try omega
    try (first | exact fun _ => hq | exact fun _ _ => hq | (intros; simp_all))
theorem step_callg {P : Program} {ops : Array Oper} {o : Oper} {a : Act} {w : World} {K : Act → World → Prop} {Q : Exit → Act → World → Prop} {E : Prop} {R : Ending → World → Prop} (hw : Region.wanted o (yielded ops a.tmps) = true) (f : FuncId) (args : Array Value)
    (hrun : (execOp a.eval o).run P w = .ok (.enter f args) w) (hc : Calls P f args w R) (hK : ∀ e w', R e w' → ∃ v, e = .returned v ∧ K (a.put o.dst v) w') : if Region.wanted o (yielded ops a.tmps) = true then Oper.wp P o a w K Q else E := by
  rw [if_pos hw]
  unfold Oper.wp
  rw [hrun]
  simp only [Oper.upon]
  refine hc.mono ?_
  intro e w' h
  obtain ⟨v, rfl, hk⟩ := hK e w' h
  exact hk
theorem cells_below {w w5 : World} {a b c d : Value} {t : TypeId} (h : Below (w.alloc (.cells #[a, b, c, d] t)).heap.size (w.alloc (.cells #[a, b, c, d] t)) w5) :
    w5.cell? ⟨w.heap.size, 0, none⟩ = some a ∧ w5.cell? ⟨w.heap.size, 1, none⟩ = some b ∧ w5.cell? ⟨w.heap.size, 2, none⟩ = some c ∧ w5.cell? ⟨w.heap.size, 3, none⟩ = some d ∧ Below w.heap.size w w5 := by
  have hb := (h.block w.heap.size (by simp)).trans (heap_alloc_new w _)
  refine ⟨?_, ?_, ?_, ?_, ((Below.refl _ _).alloc (Nat.le_refl _) _).trans (h.mono (by simp))⟩ <;> simp [World.cell?, hb]
theorem cells_below' {w w5 : World} {a b c d : Value} {t : TypeId} (h : Below (w.alloc (.cells #[a, b, c, d] t)).drew.heap.size (w.alloc (.cells #[a, b, c, d] t)).drew w5) :
    w5.cell? ⟨w.heap.size, 0, none⟩ = some a ∧ w5.cell? ⟨w.heap.size, 1, none⟩ = some b ∧ w5.cell? ⟨w.heap.size, 2, none⟩ = some c ∧ w5.cell? ⟨w.heap.size, 3, none⟩ = some d ∧ Below w.heap.size w w5 :=
  cells_below ((Below.refl _ _).drew.trans h)
set_option maxRecDepth 100000 in
set_option maxHeartbeats 1600000 in
theorem valFits_3 (hs : s.size ≤ maxLen) (hm : m ≤ cap) (hcap : cap ≤ maxLen) :
    Calls Tryz.prog 171 #[.agg #[.int .i64 3, .int .i64 n, .string s, .slice ao m cap]] w fun e w' => e = .returned (.bool (fitsB 3 n s m)) ∧ Below w.heap.size w w' := by
  have hE1 := empty1 s
  have hE2 := empty2 s
  unfold maxLen at hs hcap
  go_enter Tryz.func171, Tryz.ntmps171
  go_wp2
  all_goals
    go_ret
    refine ⟨ret_bool ?_, (Below.refl _ _).alloc (Nat.le_refl _) _⟩
    rw [Bool.eq_iff_iff]
    simp [fitsB, *]
    try omega
    try (first | exact fun _ => hq | exact fun _ _ => hq | (intros; simp_all))
set_option maxRecDepth 100000 in
set_option maxHeartbeats 1600000 in
theorem valFits_4 (hs : s.size ≤ maxLen) (hm : m ≤ cap) (hcap : cap ≤ maxLen) :
    Calls Tryz.prog 171 #[.agg #[.int .i64 4, .int .i64 n, .string s, .slice ao m cap]] w fun e w' => e = .returned (.bool (fitsB 4 n s m)) ∧ Below w.heap.size w w' := by
  have hE1 := empty1 s
  have hE2 := empty2 s
  unfold maxLen at hs hcap
  go_enter Tryz.func171, Tryz.ntmps171
  go_wp2
  all_goals
    go_ret
    refine ⟨ret_bool ?_, (Below.refl _ _).alloc (Nat.le_refl _) _⟩
    rw [Bool.eq_iff_iff]
    simp [fitsB, *]
    try omega
    try (first | exact fun _ => hq | exact fun _ _ => hq | (intros; simp_all))
set_option maxRecDepth 100000 in
set_option maxHeartbeats 1600000 in
theorem valFits_2 (hs : s.size ≤ maxLen) (hm : m ≤ cap) (hcap : cap ≤ maxLen) :
    Calls Tryz.prog 171 #[.agg #[.int .i64 2, .int .i64 n, .string s, .slice ao m cap]] w fun e w' => e = .returned (.bool (fitsB 2 n s m)) ∧ Below w.heap.size w w' := by
  have hE1 := empty1 s
  have hE2 := empty2 s
  have HB := Lib.hid (fun W => bare_any n s ao m cap W 2 false true hs hm hcap)
  unfold maxLen at hs hcap
  cases hb : bareB false true n s m
  all_goals
    rw [hb] at HB
    have HQ := Lib.hid hb
    clear hb
    go_enter Tryz.func171, Tryz.ntmps171
    go_wp2_with ((go_at_call 200; refine (HB.out _).mono ?_; rintro e w5 ⟨rfl, hb5⟩; obtain ⟨c0, c1, c2, c3, hb6⟩ := cells_below hb5; have H6 := Lib.hid hb6; clear hb5 hb6))
  all_goals
    go_ret
    refine ⟨ret_bool ?_, H6.out⟩
    have hq := HQ.out
    simp [bareB] at hq
    rw [Bool.eq_iff_iff]
    simp [fitsB, *]
    try omega
    try (first | exact fun _ => hq | exact fun _ _ => hq | (intros; simp_all))
set_option maxRecDepth 100000 in
set_option maxHeartbeats 1600000 in
theorem valFits_5 (hs : s.size ≤ maxLen) (hm : m ≤ cap) (hcap : cap ≤ maxLen) :
    Calls Tryz.prog 171 #[.agg #[.int .i64 5, .int .i64 n, .string s, .slice ao m cap]] w fun e w' => e = .returned (.bool (fitsB 5 n s m)) ∧ Below w.heap.size w w' := by
  have hE1 := empty1 s
  have hE2 := empty2 s
  have HB := Lib.hid (fun W => bare_any n s ao m cap W 5 true false hs hm hcap)
  unfold maxLen at hs hcap
  cases hb : bareB true false n s m
  all_goals
    rw [hb] at HB
    have HQ := Lib.hid hb
    clear hb
    go_enter Tryz.func171, Tryz.ntmps171
    go_wp2_with ((go_at_call 200; refine (HB.out _).mono ?_; rintro e w5 ⟨rfl, hb5⟩; obtain ⟨c0, c1, c2, c3, hb6⟩ := cells_below hb5; have H6 := Lib.hid hb6; clear hb5 hb6))
  all_goals
    go_ret
    refine ⟨ret_bool ?_, H6.out⟩
    have hq := HQ.out
    simp [bareB] at hq
    rw [Bool.eq_iff_iff]
    simp [fitsB, *]
    try omega
    try (first | exact fun _ => hq | exact fun _ _ => hq | (intros; simp_all))
set_option maxRecDepth 100000 in
set_option maxHeartbeats 1600000 in
theorem valFits_6 (hs : s.size ≤ maxLen) (hm : m ≤ cap) (hcap : cap ≤ maxLen) :
    Calls Tryz.prog 171 #[.agg #[.int .i64 6, .int .i64 n, .string s, .slice ao m cap]] w fun e w' => e = .returned (.bool (fitsB 6 n s m)) ∧ Below w.heap.size w w' := by
  have hE1 := empty1 s
  have hE2 := empty2 s
  have HB := Lib.hid (fun W => bare_any n s ao m cap W 6 false false hs hm hcap)
  unfold maxLen at hs hcap
  cases hb : bareB false false n s m
  all_goals
    rw [hb] at HB
    have HQ := Lib.hid hb
    clear hb
    go_enter Tryz.func171, Tryz.ntmps171
    go_wp2_with ((go_at_call 200; refine (HB.out _).mono ?_; rintro e w5 ⟨rfl, hb5⟩; obtain ⟨c0, c1, c2, c3, hb6⟩ := cells_below hb5; have H6 := Lib.hid hb6; clear hb5 hb6))
  all_goals
    go_ret
    refine ⟨ret_bool ?_, H6.out⟩
    have hq := HQ.out
    simp [bareB] at hq
    rw [Bool.eq_iff_iff]
    simp [fitsB, *]
    try omega
    try (first | exact fun _ => hq | exact fun _ _ => hq | (intros; simp_all))
set_option maxRecDepth 100000 in
set_option maxHeartbeats 1600000 in
theorem valFits_0 (hs : s.size ≤ maxLen) (hm : m ≤ cap) (hcap : cap ≤ maxLen) :
    Calls Tryz.prog 171 #[.agg #[.int .i64 0, .int .i64 n, .string s, .slice ao m cap]] w fun e w' => e = .returned (.bool (fitsB 0 n s m)) ∧ Below w.heap.size w w' := by
  have hE1 := empty1 s
  have hE2 := empty2 s
  have HB := Lib.hid (fun W => bare_any n s ao m cap W 0 true false hs hm hcap)
  have HS := Lib.hid hs
  unfold maxLen at hs hcap
  cases hb : bareB true false n s m
  · rw [hb] at HB
    have HQ := Lib.hid hb
    clear hb
    go_enter Tryz.func171, Tryz.ntmps171
    go_wp2
    first | go_region_law ((refine step_callw (by rfl) 200 #[.agg #[.int .i64 0, .int .i64 n, .string s, .slice ao m cap], .bool true, .bool false] ?_ (HB.out _) ?_; go_simp; rintro e w5 ⟨rfl, hb5⟩; refine ⟨.bool false, rfl, ?_⟩; obtain ⟨c0, c1, c2, c3, hb6⟩ := cells_below' hb5; have H6 := Lib.hid hb6; clear hb5 hb6)) | fail
    go_wp2
    all_goals
      go_ret
      refine ⟨ret_bool ?_, H6.out⟩
      have hq := HQ.out
      simp [bareB] at hq
      rw [Bool.eq_iff_iff]
      simp [fitsB, *]
      try omega
      try (first | exact fun _ => hq | exact fun _ _ => hq | (intros; simp_all))
  · rw [hb] at HB
    have HQ := Lib.hid hb
    clear hb
    go_enter Tryz.func171, Tryz.ntmps171
    go_wp2
    go_region_law (first
      | (refine step_callw (by rfl) 200 #[.agg #[.int .i64 0, .int .i64 n, .string s, .slice ao m cap], .bool true, .bool false] ?_ (HB.out _) ?_; go_simp; rintro e w5 ⟨rfl, hb5⟩; refine ⟨.bool true, rfl, ?_⟩; obtain ⟨c0, c1, c2, c3, hb6⟩ := cells_below' hb5; have H6 := Lib.hid hb6; clear hb5 hb6)
      | (refine step_callg (by rfl) 137 #[.int .i64 n] ?_ (wrap_any _ _) ?_; go_simp; rintro e w6 ⟨rfl, rfl⟩; refine ⟨.int .i64 (wr n), rfl, ?_⟩))
    all_goals go_wp2
    all_goals
      go_ret
      refine ⟨ret_bool ?_, H6.out⟩
      have hq := HQ.out
      simp [bareB] at hq
      rw [Bool.eq_iff_iff]
      simp [fitsB, *]
      try omega
      try (first | exact fun _ => hq | exact fun _ _ => hq | (intros; simp_all))
set_option maxRecDepth 100000 in
set_option maxHeartbeats 1600000 in
theorem valFits_1 (hs : s.size ≤ maxLen) (hm : m ≤ cap) (hcap : cap ≤ maxLen) :
    Calls Tryz.prog 171 #[.agg #[.int .i64 1, .int .i64 n, .string s, .slice ao m cap]] w fun e w' => e = .returned (.bool (fitsB 1 n s m)) ∧ Below w.heap.size w w' := by
  have hE1 := empty1 s
  have hE2 := empty2 s
  have HB := Lib.hid (fun W => bare_any n s ao m cap W 1 false true hs hm hcap)
  have HS := Lib.hid hs
  unfold maxLen at hs hcap
  cases hb : bareB false true n s m
  · rw [hb] at HB
    have HQ := Lib.hid hb
    clear hb
    go_enter Tryz.func171, Tryz.ntmps171
    go_wp2
    first | go_region_law ((refine step_callw (by rfl) 200 #[.agg #[.int .i64 1, .int .i64 n, .string s, .slice ao m cap], .bool false, .bool true] ?_ (HB.out _) ?_; go_simp; rintro e w5 ⟨rfl, hb5⟩; refine ⟨.bool false, rfl, ?_⟩; obtain ⟨c0, c1, c2, c3, hb6⟩ := cells_below' hb5; have H6 := Lib.hid hb6; clear hb5 hb6)) | fail
    go_wp2
    all_goals
      go_ret
      refine ⟨ret_bool ?_, H6.out⟩
      have hq := HQ.out
      simp [bareB] at hq
      rw [Bool.eq_iff_iff]
      simp [fitsB, *]
      try omega
      try (first | exact fun _ => hq | exact fun _ _ => hq | (intros; simp_all))
  · rw [hb] at HB
    have HQ := Lib.hid hb
    clear hb
    by_cases h8 : s.size = 8
    · have h8' : ((s.size : Int) == 8) = true := by simp [h8]
      have H8 := Lib.hid h8
      clear h8
      go_enter Tryz.func171, Tryz.ntmps171
      go_wp2
      go_region_held3 (fun w' => w'.cell? ⟨w.heap.size, 0, none⟩ = some (.int .i64 1) ∧ w'.cell? ⟨w.heap.size, 1, none⟩ = some (.int .i64 n) ∧ w'.cell? ⟨w.heap.size, 2, none⟩ = some (.string s) ∧ w'.cell? ⟨w.heap.size, 3, none⟩ = some (.slice ao m cap)) (first | exact ⟨c0, c1, c2, c3⟩ | go_keep)
        ((first
          | (go_at_call 200; refine (HB.out _).mono ?_; rintro e w5 ⟨rfl, hb5⟩; obtain ⟨c0, c1, c2, c3, hb6⟩ := cells_below' hb5; have H6 := Lib.hid hb6; clear hb5 hb6)
          | (go_at_call 165; refine (float_any _ _ HS.out).mono ?_; rintro e w6 ⟨rfl, rfl⟩)
          | (go_at_call 202; refine (asGo_any _ _).mono ?_; rintro e w6 ⟨rfl, rfl⟩)
          | (go_at_call 201; refine (of_any _ _).mono ?_; rintro e w6 ⟨rfl, rfl⟩)))
      all_goals go_wp2
      all_goals
        go_ret
        refine ⟨ret_bool ?_, H6.out⟩
        have hq := HQ.out
        simp [bareB] at hq
        rw [Bool.eq_iff_iff]
        simp [fitsB, H8.out, sameBits, hq]
        try omega
    · have h8' : ((s.size : Int) == 8) = false := by simp; omega
      have H8 := Lib.hid h8
      clear h8
      go_enter Tryz.func171, Tryz.ntmps171
      go_wp2
      first | go_region_law ((refine step_callw (by rfl) 200 #[.agg #[.int .i64 1, .int .i64 n, .string s, .slice ao m cap], .bool false, .bool true] ?_ (HB.out _) ?_; go_simp; rintro e w5 ⟨rfl, hb5⟩; refine ⟨.bool true, rfl, ?_⟩; obtain ⟨c0, c1, c2, c3, hb6⟩ := cells_below' hb5; have H6 := Lib.hid hb6; clear hb5 hb6)) | fail
      all_goals go_wp2
      all_goals
        go_ret
        refine ⟨ret_bool ?_, H6.out⟩
        have hq := HQ.out
        simp [bareB] at hq
        rw [Bool.eq_iff_iff]
        simp [fitsB, H8.out]
        try omega
set_option maxRecDepth 100000 in
set_option maxHeartbeats 1600000 in
theorem valFits_x (k : Int) (h0 : ¬ k = 0) (h1 : ¬ k = 1) (h2 : ¬ k = 2) (h3 : ¬ k = 3) (h4 : ¬ k = 4) (h5 : ¬ k = 5) (h6 : ¬ k = 6) (hs : s.size ≤ maxLen) (hm : m ≤ cap) (hcap : cap ≤ maxLen) :
    Calls Tryz.prog 171 #[.agg #[.int .i64 k, .int .i64 n, .string s, .slice ao m cap]] w fun e w' => e = .returned (.bool (fitsB k n s m)) ∧ Below w.heap.size w w' := by
  unfold maxLen at hs hcap
  go_enter Tryz.func171, Tryz.ntmps171
  go_wp2
  all_goals
    go_ret
    refine ⟨ret_bool ?_, (Below.refl _ _).alloc (Nat.le_refl _) _⟩
    rw [Bool.eq_iff_iff]
    simp [fitsB, *]
end
theorem valFits_any (k n : Int) (s : ByteArray) (ao : Option Addr) (m cap : Nat) (w : World) (hs : s.size ≤ maxLen) (hm : m ≤ cap) (hcap : cap ≤ maxLen) :
    Calls Tryz.prog 171 #[.agg #[.int .i64 k, .int .i64 n, .string s, .slice ao m cap]] w fun e w' => e = .returned (.bool (fitsB k n s m)) ∧ Below w.heap.size w w' := by
  by_cases h0 : k = 0
  · subst h0; exact valFits_0 n s ao m cap w hs hm hcap
  by_cases h1 : k = 1
  · subst h1; exact valFits_1 n s ao m cap w hs hm hcap
  by_cases h2 : k = 2
  · subst h2; exact valFits_2 n s ao m cap w hs hm hcap
  by_cases h3 : k = 3
  · subst h3; exact valFits_3 n s ao m cap w hs hm hcap
  by_cases h4 : k = 4
  · subst h4; exact valFits_4 n s ao m cap w hs hm hcap
  by_cases h5 : k = 5
  · subst h5; exact valFits_5 n s ao m cap w hs hm hcap
  by_cases h6 : k = 6
  · subst h6; exact valFits_6 n s ao m cap w hs hm hcap
  exact valFits_x n s ao m cap w k h0 h1 h2 h3 h4 h5 h6 hs hm hcap
end Go.Proofs.YtcpgbekcbaelpaaGreatDoor
