/- Sixteen digits of a float's bits: the program's and the reference's. -/
import Derived.Test.YtpdebbjbhciceaaGreatDoorFlRead
import Derived.WalkSmall
import Derived.WalkLawsBesides
import Derived.Laws.Concat
import Derived.Laws.IdiomStrings
import Derived.Laws.BitsAllLaws
import Derived.Deep.DeepCutAuto
namespace Go.Proofs.YtpdebbjbhciceaaGreatDoor
open Go.RowKit Go.Maps
set_option linter.unusedVariables false

def bytes (l : List UInt8) : ByteArray := ⟨l.toArray⟩
theorem bytes_size (l : List UInt8) : (bytes l).size = l.length := by simp [bytes, ByteArray.size]
theorem bytes_append (a b : List UInt8) : bytes a ++ bytes b = bytes (a ++ b) := by
  apply Go.WideShapes.bytes_inj
  simp [bytes]
def bvals (l : List UInt8) : List Value := l.map fun b => Value.int .u8 (b.toNat : Int)
def hexB (n : Nat) : UInt8 := if n < 10 then UInt8.ofNat (48 + n) else UInt8.ofNat (87 + n)
def hexDigits (u : Nat) : List UInt8 := if _h : u < 16 then [hexB u] else hexDigits (u / 16) ++ [hexB (u % 16)]
termination_by u
decreasing_by omega
theorem hexDigits_small {u : Nat} (h : u < 16) : hexDigits u = [hexB u] := by rw [hexDigits]; simp [h]
theorem hexDigits_big {u : Nat} (h : ¬ u < 16) : hexDigits u = hexDigits (u / 16) ++ [hexB (u % 16)] := by rw [hexDigits]; simp [h]
/-- Just k digits. -/
def hexPad : Nat → Nat → List UInt8
  | 0, _ => []
  | k + 1, u => hexPad k (u / 16) ++ [hexB (u % 16)]
theorem hexPad_zero : ∀ k, hexPad k 0 = List.replicate k 48
  | 0 => rfl
  | k + 1 => by rw [hexPad, Nat.zero_div, hexPad_zero k, List.replicate_succ']; rfl
theorem hexDigits_le : ∀ (k u : Nat), u < 16 ^ (k + 1) → (hexDigits u).length ≤ k + 1
  | 0, u, h => by rw [hexDigits_small (by simpa using h)]; simp
  | k + 1, u, h => by
    by_cases hs : u < 16
    · rw [hexDigits_small hs]; simp
    · rw [hexDigits_big hs, List.length_append]
      have := hexDigits_le k (u / 16) (by rw [Nat.pow_succ] at h; omega)
      simp; omega
theorem hexDigits_pos (u : Nat) : 0 < (hexDigits u).length := by
  by_cases hs : u < 16
  · rw [hexDigits_small hs]; simp
  · rw [hexDigits_big hs]; simp
theorem hex_pad : ∀ (k u : Nat), u < 16 ^ (k + 1) → List.replicate (k + 1 - (hexDigits u).length) 48 ++ hexDigits u = hexPad (k + 1) u
  | 0, u, h => by
    have : u < 16 := by simpa using h
    rw [hexDigits_small this, hexPad, hexPad, Nat.mod_eq_of_lt this]
    simp
  | k + 1, u, h => by
    by_cases hs : u < 16
    · rw [hexDigits_small hs, hexPad, Nat.div_eq_of_lt hs, hexPad_zero, Nat.mod_eq_of_lt hs]
      simp
    · have h2 : u / 16 < 16 ^ (k + 1) := by rw [Nat.pow_succ] at h; omega
      have := hex_pad k (u / 16) h2
      rw [hexPad, ← this, hexDigits_big hs, ← List.append_assoc]
      have := hexDigits_le k (u / 16) h2
      simp

theorem hexDigits_bound {u : Nat} (h : u < 18446744073709551616) : (hexDigits u).length ≤ 16 := hexDigits_le 15 u (by simpa using h)
/-- The one cell of the table that a look at 16's last noughts reads. -/
def Tz (w : World) : Prop := w.cell? ⟨14, 15, none⟩ = some (.int .u8 4)
theorem Tz.below {w w' : World} (h : Tz w) (hb : Below w.heap.size w w') : Tz w' := (hb.cell (p := ⟨14, 15, none⟩) (lt_of_cell' h)).trans h
set_option maxRecDepth 100000 in
theorem tz64_any (w : World) (h : Tz w) : Calls Tryz.prog 96 #[.int .u64 16] w fun e w' => e = .returned (.int .i64 4) ∧ w = w' := by
  unfold Tz at h
  have hx : IntKind.u64.wrap (bits BinOp.and IntKind.u64 16 (IntKind.u64.wrap (-16)) * 285870213051353865) / 288230376151711744 = 15 := by decide +kernel
  go_enter Tryz.func96, Tryz.ntmps96
  go_wp2
  go_ret
  exact ⟨rfl, rfl⟩
theorem tz_any (w : World) (h : Tz w) : Calls Tryz.prog 73 #[.int .u64 16] w fun e w' => e = .returned (.int .i64 4) ∧ w = w' := by
  go_enter Tryz.func73, Tryz.ntmps73
  go_wp2_with (go_at_call 96; refine (tz64_any _ h).mono ?_; rintro e w' ⟨rfl, rfl⟩)
  go_ret
  exact ⟨rfl, rfl⟩
theorem pow_any (w : World) : Calls Tryz.prog 72 #[.int .i64 16] w fun e w' => e = .returned (.bool true) ∧ w = w' := by
  have hx : (bits BinOp.and IntKind.i64 16 15 == 0) = true := by decide +kernel
  go_enter Tryz.func72, Tryz.ntmps72
  go_wp2
  go_ret
  exact ⟨rfl, rfl⟩
theorem and15_u64 (u : Nat) (h : u < 18446744073709551616) : bits .and .u64 (u : Int) 15 = (u : Int) % 16 := by
  show IntKind.u64.wrap (((BitVec.ofInt 64 (u : Int) &&& BitVec.ofInt 64 15).toNat : Nat) : Int) = _
  rw [BitVec.ofInt_natCast, BitVec.toNat_and, BitVec.toNat_ofNat, show (BitVec.ofInt 64 15).toNat = 15 by decide, Nat.mod_eq_of_lt (by omega)]
  rw [show (15 : Nat) = 2 ^ 4 - 1 from rfl, Nat.and_two_pow_sub_one_eq_mod]
  show ((u % 2 ^ 4 : Nat) : Int) % 18446744073709551616 = _
  omega
theorem hex36 (j k : Nat) (h : j = k) (hk : k < 16) (hb : j < (ByteArray.mk #[48, 49, 50, 51, 52, 53, 54, 55, 56, 57, 97, 98, 99, 100, 101, 102, 103, 104, 105, 106, 107, 108, 109, 110, 111, 112, 113, 114, 115, 116, 117, 118, 119, 120, 121, 122]).size) :
    (ByteArray.mk #[48, 49, 50, 51, 52, 53, 54, 55, 56, 57, 97, 98, 99, 100, 101, 102, 103, 104, 105, 106, 107, 108, 109, 110, 111, 112, 113, 114, 115, 116, 117, 118, 119, 120, 121, 122])[j]'hb = hexB k := by
  subst h
  have key : ∀ k : Fin 16, (ByteArray.mk #[48, 49, 50, 51, 52, 53, 54, 55, 56, 57, 97, 98, 99, 100, 101, 102, 103, 104, 105, 106, 107, 108, 109, 110, 111, 112, 113, 114, 115, 116, 117, 118, 119, 120, 121, 122])[k.val]'(Nat.lt_of_lt_of_le k.isLt (by decide)) = hexB k.val := by decide +kernel
  exact key ⟨j, hk⟩
theorem drop_set {L : List Value} {m : Nat} {c : Value} (h : m < L.length) : (L.set m c).drop m = c :: L.drop (m + 1) := by
  rw [List.drop_eq_getElem_cons (by simpa using h), List.getElem_set_self, List.drop_set_of_lt (by omega)]
def HexLoop (w0 : World) (u0 : Nat) (k : Nat) (s1 s13 : Value) (w : World) : Prop :=
  ∃ (u n : Nat) (D : List UInt8) (L : List Value), s1 = .int .u64 (u : Nat) ∧ s13 = .int .i64 (n : Nat) ∧ n + D.length = 65 ∧ u = k ∧ u < 18446744073709551616 ∧ hexDigits u0 = hexDigits u ++ D ∧
    Row w 105 (.slice (some ⟨w0.heap.size, 0, none⟩) 65 65) L ∧ L.length = 65 ∧ L.drop n = bvals D ∧ Below w0.heap.size w0 w
set_option maxRecDepth 100000 in
theorem zero_row (w : World) : Row (w.alloc (.cells Tryz.zeroCells105 105)) 105 (.slice (some ⟨w.heap.size, 0, none⟩) 65 65) (List.replicate 65 (.int .u8 0)) := by
  have e : (Tryz.zeroCells105).toList = List.replicate 65 (.int .u8 0) := by rfl
  refine ⟨rfl, .inr ⟨w.heap.size, 65, Tryz.zeroCells105, rfl, Nat.zero_le _, heap_alloc_new w _, Nat.le_refl _, by unfold maxLen; omega, ?_, ?_⟩⟩
  · rw [← Array.length_toList, e]; rfl
  · rw [e]; rfl
theorem run_tail65 (b m : Nat) (hm : m < 65) (W : World) : (Instr.sliceAt 105 (.pointer (some ⟨b, 0, none⟩)) (some (.int .i64 (m : Int))) none none).run Tryz.prog W = .ok (.slice (some ⟨b, m, none⟩) (65 - m) (65 - m)) W := by
  have hal : Tryz.prog.arrayLen 105 = 65 := by kernel_rfl
  have hel : Tryz.prog.elem 105 = 5 := by kernel_rfl
  have h := run_sliceAt_array_l (P := Tryz.prog) (w := W) (t := 105) (a := ⟨b, 0, none⟩) (by rw [hal, hel]; exact Tryz.underlying105) .i64 (m : Int) (by omega) (by rw [hal]; omega)
  rw [h, hal, hel, Tryz.sizeOf5]
  simp only [Result.andThen_ok, slicedAt, Int.toNat_natCast, Nat.mul_one]
  rw [if_neg (by omega), Go.WideShapes.add_plain, Nat.zero_add]
set_option maxRecDepth 100000 in
set_option maxHeartbeats 1600000 in
theorem formatBits_any (u0 : Nat) (hu0 : u0 < 18446744073709551616) (w : World) (h : Tz w) : Calls Tryz.prog 51 #[.slice none 0 0, .int .u64 u0, .int .i64 16, .bool false, .bool false] w
    fun e w' => e = .returned (.tuple #[.slice none 0 0, .string (bytes (hexDigits u0))]) ∧ Below w.heap.size w w' := by
  have HU := Lib.hid hu0
  have H := Lib.hid h
  clear hu0 h
  go_enter Tryz.func51, Tryz.ntmps51
  go_wp2_with (first
    | (go_at_call 72; refine (pow_any _).mono ?_; rintro e w' ⟨rfl, rfl⟩)
    | (go_at_call 73; refine (tz_any _ (H.out.below ((Below.refl _ _).alloc (Nat.le_refl _) _))).mono ?_; rintro e w' ⟨rfl, rfl⟩))
  have HL : Hid (HexLoop w u0 u0 (.int .u64 u0) (.int .i64 65) (w.alloc (.cells Tryz.zeroCells105 105))) := ⟨u0, 65, [], _, rfl, rfl, rfl, rfl, HU.out, by simp, zero_row w, by simp, by simp [bvals], (Below.refl _ _).alloc (Nat.le_refl _) _⟩
  go_loopg [1, 13] u0 (fun k s1 s13 wr => HexLoop w u0 k s1 s13 wr)
  case atStart => exact HL.out
  case round =>
    clear HL
    obtain ⟨u, n, D, L, rfl, rfl, hn, rfl, hu, hx, hrow, hll, hdr, hb⟩ := hrel
    have hd15 : D.length ≤ 15 := by
      have h1 := hexDigits_bound HU.out
      rw [hx, List.length_append] at h1
      have := hexDigits_pos u
      omega
    obtain ⟨m, rfl⟩ : ∃ m, n = m + 1 := ⟨n - 1, by omega⟩
    have c0 := hrow.cellAt m (by omega)
    rw [List.getElem?_eq_getElem (by omega)] at c0
    have f0 := hrow.frozenAt m
    have HROW := Lib.hid hrow
    have HB := Lib.hid hb
    have HX := Lib.hid hx
    have HDR := Lib.hid hdr
    have HLL := Lib.hid hll
    have hand := and15_u64 u hu
    have HU2 := Lib.hid hu
    have hal : Tryz.prog.arrayLen 105 = 65 := by kernel_rfl
    have hml : (m : Int) ≤ ((Tryz.prog.arrayLen 105 : Nat) : Int) := by rw [hal]; omega
    have hm0 : (0 : Int) ≤ (m : Int) := by omega
    have hm1 : (m : Int) < 65 := by omega
    have hu3 : (0 : Int) ≤ (u : Int) := by omega
    have ha0 : (0 : Int) ≤ (u : Int) % 16 := by omega
    have ha1 : (u : Int) % 16 < 36 := by omega
    clear hrow hb hx hdr hu
    by_cases hlt : 16 ≤ u
    · have hlt' : (16 : Int) ≤ (u : Int) := by omega
      go_wp2
      go_roundg (u / 16)
      case measure => omega
      case rel =>
        refine ⟨u / 16, m, hexB (u % 16) :: D, L.set m (.int .u8 ((hexB (u % 16)).toNat : Int)), congrArg (Value.int .u64) (by omega), rfl, by simp; omega, rfl, by have := HU2.out; omega, ?_, ?_, by simpa using HLL.out, ?_, HB.out.setCell (Nat.le_refl _) _⟩
        · rw [HX.out, hexDigits_big (by omega), List.append_assoc]; rfl
        · rw [hex36 _ (u % 16) rfl (by omega)]
          exact HROW.out.stored m _
        · rw [drop_set (by have := HLL.out; omega), HDR.out]; rfl
    · have hlt' : ¬ (16 : Int) ≤ (u : Int) := by omega
      have hsl := run_tail65 w.heap.size m (by omega)
      have hrow2 := HROW.out.stored m (.int .u8 ((hexB u).toNat : Int))
      have hcv : ∀ W, Row W 105 (.slice (some ⟨w.heap.size, 0, none⟩) 65 65) (L.set m (.int .u8 ((hexB u).toNat : Int))) → (convert 57 9 (.slice (some ⟨w.heap.size, m, none⟩) (65 - m) (65 - m))).run Tryz.prog W = .ok (.string (bytes (hexDigits u0))) W := by
        intro W hW
        have e : hexDigits u0 = hexB u :: D := by rw [HX.out, hexDigits_small (by omega)]; rfl
        have hl : (hexB u :: D).length = 65 - m := by simp; omega
        rw [e, ← hl]
        refine run_convert_bytes_back (P := Tryz.prog) W 57 9 5 ⟨w.heap.size, m, none⟩ _ (hexB u :: D) Tryz.underlying57 Tryz.underlying5 Tryz.underlying9 (fun j hj => ?_)
        rw [Go.WideShapes.add_plain, hW.cellAt (m + j) (by simp; omega)]
        have hd := drop_set (L := L) (m := m) (c := .int .u8 ((hexB u).toNat : Int)) (by have := HLL.out; omega)
        rw [HDR.out] at hd
        have : (L.set m (.int .u8 ((hexB u).toNat : Int)))[m + j]? = (bvals (hexB u :: D))[j]? := by
          rw [← List.getElem?_drop, hd]; rfl
        rw [this]
        unfold bvals
        rw [List.getElem?_map, List.getElem?_eq_getElem hj]
        rfl
      have hcv2 := hcv _ hrow2
      rw [← hex36 u u rfl (by omega) (show u < 36 by omega)] at hcv2
      clear hcv hrow2
      go_wp2
      refine bodyPost_ret (v := .tuple #[.slice none 0 0, .string (bytes (hexDigits u0))]) (by simp [results, Tryz.results51, go_sem]) rfl ?_
      exact ⟨rfl, HB.out.setCell (Nat.le_refl _) _⟩

/-- A float's sixteen digits. -/
def flHex (x : Nat) : List UInt8 := List.replicate (16 - (hexDigits x).length) 48 ++ hexDigits x
theorem flHex_pad (x : Nat) (h : x < 18446744073709551616) : flHex x = hexPad 16 x := hex_pad 15 x (by simpa using h)
set_option maxRecDepth 100000 in
theorem fmtUint_any (u0 : Nat) (hu0 : u0 < 18446744073709551616) (w : World) (h : Tz w) : Calls Tryz.prog 17 #[.int .u64 u0, .int .i64 16] w fun e w' => e = .returned (.string (bytes (hexDigits u0))) ∧ Below w.heap.size w w' := by
  have HF := Lib.hid (fun W hW => formatBits_any u0 hu0 W hW)
  have H2 : Hid (∀ W, Tz W → Calls Tryz.prog 27 #[.int .u64 u0, .int .i64 16] W fun e w' => e = .returned (.string (bytes (hexDigits u0))) ∧ Below W.heap.size W w') := by
    intro W hW
    clear hu0 h
    go_enter Tryz.func27, Tryz.ntmps27
    go_wp2_with (go_at_call 51; refine (HF.out _ hW).mono ?_; rintro e w5 ⟨rfl, hb5⟩; have H5 := Lib.hid hb5; clear hb5)
    go_ret
    exact ⟨rfl, H5.out⟩
  clear hu0
  go_enter Tryz.func17, Tryz.ntmps17
  go_wp2_with (go_at_call 27; refine (H2.out _ h).mono ?_; rintro e w5 ⟨rfl, hb5⟩; have H5 := Lib.hid hb5; clear hb5)
  go_ret
  exact ⟨rfl, H5.out⟩
set_option maxRecDepth 100000 in
theorem flBits_any (u0 : Nat) (hu0 : u0 < 18446744073709551616) (w : World) (h : Tz w) : Calls Tryz.prog 7 #[.int .u64 u0] w fun e w' => e = .returned (.string (bytes (flHex u0))) ∧ Below w.heap.size w w' := by
  have hl := hexDigits_bound hu0
  have HF := Lib.hid (fmtUint_any u0 hu0 w h)
  obtain ⟨c, hc⟩ : ∃ c, c = 16 - (hexDigits u0).length := ⟨_, rfl⟩
  have hw : IntKind.i64.wrap (16 - ((bytes (hexDigits u0)).size : Int)) = (c : Int) := by rw [bytes_size, IntKind.wrap_i64]; omega
  have hw2 : wrap64 (16 - ((bytes (hexDigits u0)).size : Int)) = (c : Int) := by rw [bytes_size]; unfold wrap64; omega
  have HR : Hid (∀ W, Calls Tryz.prog 18 #[.string ⟨#[48]⟩, .int .i64 c] W fun e w' => e = .returned (.string (bytes (List.replicate c 48))) ∧ Below W.heap.size W w') := fun W => by
    have h := Tryz.strings_Repeat ⟨#[48]⟩ c W (by omega) (by show 1 * c ≤ _; omega)
    have er : ∀ c, Lib.repeatL [48] c = List.replicate c 48 := fun c => by
      induction c with
      | zero => rfl
      | succ c ih => rw [Lib.repeatL, ih, List.replicate_succ]; rfl
    exact h.mono fun e w' h => ⟨by rw [h.1]; show Ending.returned (.string ⟨(Lib.repeatL [48] c).toArray⟩) = _; rw [er]; rfl, h.2⟩
  have hno : ¬ 9223372036854775807 < (bytes (List.replicate c 48)).size + (bytes (hexDigits u0)).size := by rw [bytes_size, bytes_size, List.length_replicate]; omega
  clear hu0
  have HC := Lib.hid hc
  clear hc hl
  go_enter Tryz.func7, Tryz.ntmps7
  go_wp2_with (first
    | (go_at_call 17; refine HF.out.mono ?_; rintro e w5 ⟨rfl, hb5⟩; have H5 := Lib.hid hb5; clear hb5)
    | (go_at_call 18; refine (HR.out _).mono ?_; rintro e w7 ⟨rfl, hb7⟩; have H7 := Lib.hid (H5.out.trans (hb7.mono H5.out.size)); clear hb7))
  go_ret
  refine ⟨ret_str ?_, H7.out⟩
  unfold flHex
  rw [← HC.out, bytes_append]
theorem hex_cut (u : Nat) (h : u < 16) : (ByteArray.mk #[48, 49, 50, 51, 52, 53, 54, 55, 56, 57, 97, 98, 99, 100, 101, 102]).extract u (u + 1) = bytes [hexB u] := by
  have key : ∀ k : Fin 16, ((ByteArray.mk #[48, 49, 50, 51, 52, 53, 54, 55, 56, 57, 97, 98, 99, 100, 101, 102]).extract k.val (k.val + 1)).data.toList = [hexB k.val] := by decide +kernel
  have := key ⟨u, h⟩
  apply Go.WideShapes.bytes_inj
  simpa [bytes] using this
theorem hexPad_ln : ∀ k x, (hexPad k x).length = k
  | 0, x => rfl
  | k + 1, x => by simp [hexPad, hexPad_ln k]
def BLoop (x : Nat) (w : World) (gk : Nat) (s4 s5 : Value) (wr : World) : Prop :=
  ∃ (j e : Nat), s5 = .int .i64 ((e : Int) - 4) ∧ e + 4 * j = 64 ∧ s4 = .string (bytes (hexPad j (x / 2 ^ e))) ∧ j + gk = 16 ∧ Below w.heap.size w wr
set_option maxRecDepth 100000 in
set_option maxHeartbeats 1600000 in
theorem refHex_any (x : Nat) (hx : x < 18446744073709551616) (w : World) : Calls Tryz.prog 8 #[.int .u64 x] w fun e w' => e = .returned (.string (bytes (hexPad 16 x))) ∧ Below w.heap.size w w' := by
  have HX := Lib.hid hx
  clear hx
  have HL : Hid (BLoop x w 16 (.string ⟨#[]⟩) (.int .i64 60) w) := ⟨0, 64, rfl, rfl, rfl, rfl, Below.refl _ _⟩
  go_enter Tryz.func8, Tryz.ntmps8
  go_wp2
  go_loopg [4, 5] 16 (fun gk s4 s5 wr => BLoop x w gk s4 s5 wr)
  case atStart => exact HL.out
  case round =>
    clear HL
    obtain ⟨j, e, rfl, he, rfl, hjk, hb⟩ := hrel
    have HB := Lib.hid hb
    clear hb
    by_cases hgo : 0 < gk
    · obtain ⟨i, rfl⟩ : ∃ i, e = i + 4 := ⟨e - 4, by omega⟩
      have hv : (((i + 4 : Nat) : Int) - 4) = (i : Int) := by omega
      rw [hv]
      have hi0 : (0 : Int) ≤ (i : Int) := by omega
      have hi1 : (i : Int) ≤ 60 := by omega
      have hlen := hexPad_ln j (x / 2 ^ (i + 4))
      obtain ⟨p, hp⟩ : ∃ p, hexPad j (x / 2 ^ (i + 4)) = p := ⟨_, rfl⟩
      rw [hp] at hlen ⊢
      obtain ⟨r, hr⟩ : ∃ r, x / 2 ^ i % 16 = r := ⟨_, rfl⟩
      have hr16 : r < 16 := by omega
      have ht : ((x : Int) / 2 ^ i).tmod 16 = (r : Int) := by
        have e : ((x : Int) / 2 ^ i) = ((x / 2 ^ i : Nat) : Int) := by push_cast; rfl
        rw [e, ← hr]
        rfl
      have hw1 : IntKind.u64.wrap ((r : Int) + 1) = (r : Int) + 1 := by
        show ((r : Int) + 1) % 18446744073709551616 = _
        omega
      have hcut := hex_cut r hr16
      have HP := Lib.hid hp
      have HR := Lib.hid hr
      have hs1 : ¬ 9223372036854775807 < (bytes p).size + 1 := by rw [bytes_size, hlen]; omega
      have hs2 : ¬ 9223372036854775807 < (bytes p).size + (bytes [hexB r]).size := by rw [bytes_size, bytes_size, hlen, List.length_singleton]; omega
      have hr1 : (r : Int) ≤ 15 := by omega
      have hr0 : (0 : Int) ≤ (r : Int) := by omega
      have hr2 : (r : Int) ≤ (r : Int) + 1 := by omega
      have hr3 : (r : Int) + 1 ≤ 16 := by omega
      have hr4 : r + 1 ≤ 16 := by omega
      have hsz : (ByteArray.mk #[48, 49, 50, 51, 52, 53, 54, 55, 56, 57, 97, 98, 99, 100, 101, 102]).size = 16 := rfl
      clear hp hr
      go_wp2
      go_quiet (fail)
      go_wp2
      go_roundg (gk - 1)
      case measure => omega
      case rel =>
        refine ⟨j + 1, i, rfl, by omega, ?_, by omega, below_drewN HB.out _⟩
        rw [bytes_append, hexPad, HR.out, Nat.div_div_eq_div_mul, show 2 ^ i * 16 = 2 ^ (i + 4) by rw [Nat.pow_add], HP.out]
    · obtain rfl : gk = 0 := by omega
      obtain rfl : j = 16 := by omega
      obtain rfl : e = 0 := by omega
      have hx1 : x / 2 ^ 0 = x := by simp
      rw [hx1]
      go_wp2
      go_ret
      exact ⟨rfl, HB.out⟩
end Go.Proofs.YtpdebbjbhciceaaGreatDoor
