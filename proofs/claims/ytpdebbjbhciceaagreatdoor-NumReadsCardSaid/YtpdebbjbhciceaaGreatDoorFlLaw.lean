/- The law NumReads. -/
import Derived.Test.YtpdebbjbhciceaaGreatDoorFHex
import Derived.Test.YtpdebbjbhciceaaGreatDoorRefFl
import Derived.Test.YtpdebbjbhciceaaGreatDoorBits
namespace Go.Proofs.YtpdebbjbhciceaaGreatDoor
open Go.RowKit
set_option linter.unusedVariables false

theorem wrap_any (n : Int) (w : World) : Calls Tryz.prog 19 #[.int .i64 n] w fun e w' => e = .returned (.int .i64 (wr n)) ∧ w = w' := by
  go_enter Tryz.func19, Tryz.ntmps19
  go_wp2
  go_ret
  exact ⟨ret_int (shl_shr n), rfl⟩
theorem wrap_c (n m : Int) (h : wr n = m) (w : World) : Calls Tryz.prog 19 #[.int .i64 n] w fun e w' => e = .returned (.int .i64 m) ∧ w = w' := by
  subst h
  exact wrap_any n w
set_option maxRecDepth 100000 in
theorem div_c (w : World) : Calls Tryz.prog 9 #[.int .i64 (-4611686018427387904), .int .i64 (-1)] w fun e w' => e = .returned (.tuple #[.int .i64 (-4611686018427387904), .int .i64 0]) ∧ w = w' := by
  have h1 := fun w => Lib.hid (wrap_c (-1) (-1) (by decide) w)
  have h2 := fun w => Lib.hid (wrap_c (-4611686018427387904) (-4611686018427387904) (by decide) w)
  have h3 := fun w => Lib.hid (wrap_c 4611686018427387904 (-4611686018427387904) (by decide) w)
  go_enter Tryz.func9, Tryz.ntmps9
  go_wp2_with (go_at_call 19; first | (refine (h1 _).out.mono ?_; rintro e w' ⟨rfl, rfl⟩) | (refine (h2 _).out.mono ?_; rintro e w' ⟨rfl, rfl⟩) | (refine (h3 _).out.mono ?_; rintro e w' ⟨rfl, rfl⟩))
  go_ret2
  exact ⟨rfl, rfl⟩
set_option maxRecDepth 100000 in
theorem add_c (w : World) : Calls Tryz.prog 10 #[.int .i64 4611686018427387903, .int .i64 1] w fun e w' => e = .returned (.int .i64 (-4611686018427387904)) ∧ w = w' := by
  have h3 := fun w => Lib.hid (wrap_c 4611686018427387904 (-4611686018427387904) (by decide) w)
  go_enter Tryz.func10, Tryz.ntmps10
  go_wp2_with (go_at_call 19; refine (h3 _).out.mono ?_; rintro e w' ⟨rfl, rfl⟩)
  go_ret
  exact ⟨rfl, rfl⟩
set_option maxRecDepth 100000 in
theorem counts_any (w : World) : Calls Tryz.prog 4 #[] w fun e w' => e = .returned (.bool true) ∧ w = w' := by
  have h1 := fun w => Lib.hid (div_c w)
  have h2 := fun w => Lib.hid (add_c w)
  go_enter Tryz.func4, Tryz.ntmps4
  go_wp2_with (first
    | (go_at_call 9; refine (h1 _).out.mono ?_; rintro e w' ⟨rfl, rfl⟩)
    | (go_at_call 10; refine (h2 _).out.mono ?_; rintro e w' ⟨rfl, rfl⟩))
  go_ret
  exact ⟨rfl, rfl⟩
set_option maxRecDepth 100000 in
set_option maxHeartbeats 1600000 in
theorem numReads_walk (s : ByteArray) (x : Nat) (hx : x < 18446744073709551616) (w : World) (hF : FTab w) (hZ : Tz w) :
    Calls Tryz.prog 3 #[.string s, .int .u64 (x : Int)] w fun e w' => e = .returned (.bool true) ∧ Below w.heap.size w w' := by
  have HC := Lib.hid (fun w => counts_any w)
  by_cases hs : 2000 < s.size
  · have hs' : (2000 : Int) < (s.size : Int) := by omega
    clear hs hx
    go_enter Tryz.func3, Tryz.ntmps3
    go_wp2_with (go_at_call 4; refine (HC.out _).mono ?_; rintro e w' ⟨rfl, rfl⟩)
    go_ret
    exact ⟨rfl, Below.refl _ _⟩
  · have hs' : (s.size : Int) ≤ 2000 := by omega
    have HR := Lib.hid (readFl_any s (by omega) w hF)
    have HF : Hid (∀ W, Calls Tryz.prog 6 #[.string s] W fun e w' => e = .returned (.tuple #[.int .u64 ((floatT s.data.toList).1 : Int), .int .i64 (floatT s.data.toList).2]) ∧ W = w') := fun W => refFl_any s (by omega) W
    have HB : Hid (∀ W, Below w.heap.size w W → Calls Tryz.prog 7 #[.int .u64 x] W fun e w' => e = .returned (.string (bytes (flHex x))) ∧ Below W.heap.size W w') := fun W hW => flBits_any x hx W (hZ.below hW)
    have HBR : Hid (∀ W, Calls Tryz.prog 8 #[.int .u64 x] W fun e w' => e = .returned (.string (bytes (flHex x))) ∧ Below W.heap.size W w') := fun W => by rw [flHex_pad x hx]; exact refHex_any x hx W
    clear hF hZ hx hs
    generalize bytes (flHex x) = t at HB HBR
    generalize floatT s.data.toList = r at HR HF
    generalize r.1 = a at HR HF
    generalize r.2 = b at HR HF
    obtain ⟨v, hv⟩ : ∃ v : Int, v = (x : Int) := ⟨_, rfl⟩
    rw [← hv] at HB HBR ⊢
    clear hv
    go_enter Tryz.func3, Tryz.ntmps3
    go_wp2_with (first
      | (go_at_call 5; refine HR.out.mono ?_; clear HR; rintro e w1 ⟨rfl, hb⟩; have B1 := Lib.hid hb; clear hb)
      | (go_at_call 6; refine (HF.out _).mono ?_; rintro e w2 ⟨rfl, rfl⟩)
      | (go_at_call 7; refine (HB.out _ B1.out).mono ?_; rintro e w3 ⟨rfl, hb⟩; have B3 := Lib.hid (below_then B1.out hb); clear hb)
      | (go_at_call 4; refine (HC.out _).mono ?_; rintro e w' ⟨rfl, rfl⟩)
      | (go_at_call 8; refine (HBR.out _).mono ?_; rintro e w5 ⟨rfl, hb⟩; have B5 := Lib.hid (below_then B3.out hb); clear hb))
    go_ret
    exact ⟨rfl, B5.out⟩
end Go.Proofs.YtpdebbjbhciceaaGreatDoor
