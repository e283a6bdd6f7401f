/- The law NumDigits. -/
import Derived.Test.YtpdebbjbhciceaaDoorNumText
namespace Go.Proofs.YtpdebbjbhciceaaDoor
open Go.RowKit
set_option linter.unusedVariables false

theorem wrap_c (n m : Int) (h : wr n = m) (w : World) : Calls Tryd.prog 9 #[.int .i64 n] w fun e w' => e = .returned (.int .i64 m) ∧ w = w' := by
  subst h
  exact wrap_any n w
set_option maxRecDepth 100000 in
theorem div_c (w : World) : Calls Tryd.prog 10 #[.int .i64 (-4611686018427387904), .int .i64 (-1)] w fun e w' => e = .returned (.tuple #[.int .i64 (-4611686018427387904), .int .i64 0]) ∧ w = w' := by
  have h1 := fun w => Lib.hid (wrap_c (-1) (-1) (by decide) w)
  have h2 := fun w => Lib.hid (wrap_c (-4611686018427387904) (-4611686018427387904) (by decide) w)
  have h3 := fun w => Lib.hid (wrap_c 4611686018427387904 (-4611686018427387904) (by decide) w)
  go_enter Tryd.func10, Tryd.ntmps10
  go_wp2_with (go_at_call 9; first | (refine (h1 _).out.mono ?_; rintro e w' ⟨rfl, rfl⟩) | (refine (h2 _).out.mono ?_; rintro e w' ⟨rfl, rfl⟩) | (refine (h3 _).out.mono ?_; rintro e w' ⟨rfl, rfl⟩))
  go_ret2
  exact ⟨rfl, rfl⟩
set_option maxRecDepth 100000 in
theorem add_c (w : World) : Calls Tryd.prog 11 #[.int .i64 4611686018427387903, .int .i64 1] w fun e w' => e = .returned (.int .i64 (-4611686018427387904)) ∧ w = w' := by
  have h3 := fun w => Lib.hid (wrap_c 4611686018427387904 (-4611686018427387904) (by decide) w)
  go_enter Tryd.func11, Tryd.ntmps11
  go_wp2_with (go_at_call 9; refine (h3 _).out.mono ?_; rintro e w' ⟨rfl, rfl⟩)
  go_ret
  exact ⟨rfl, rfl⟩
set_option maxRecDepth 100000 in
theorem counts_any (w : World) : Calls Tryd.prog 4 #[] w fun e w' => e = .returned (.bool true) ∧ w = w' := by
  have h1 := fun w => Lib.hid (div_c w)
  have h2 := fun w => Lib.hid (add_c w)
  go_enter Tryd.func4, Tryd.ntmps4
  go_wp2_with (first
    | (go_at_call 10; refine (h1 _).out.mono ?_; rintro e w' ⟨rfl, rfl⟩)
    | (go_at_call 11; refine (h2 _).out.mono ?_; rintro e w' ⟨rfl, rfl⟩))
  go_ret
  exact ⟨rfl, rfl⟩
set_option maxRecDepth 100000 in
set_option maxHeartbeats 1600000 in
theorem numDigits_walk (s : ByteArray) (n : Int) (w : World) (hE : ErrVar w) (hT : Tab w) :
    Calls Tryd.prog 3 #[.string s, .int .i64 n] w fun e w' => e = .returned (.bool true) ∧ Below w.heap.size w w' := by
  have HC := Lib.hid (fun w => counts_any w)
  by_cases hs : 2000 < s.size
  · have hs' : (2000 : Int) < (s.size : Int) := by omega
    clear hs
    go_enter Tryd.func3, Tryd.ntmps3
    go_wp2_with (go_at_call 4; refine (HC.out _).mono ?_; rintro e w' ⟨rfl, rfl⟩)
    go_ret
    exact ⟨rfl, Below.refl _ _⟩
  · have hs' : (s.size : Int) ≤ 2000 := by omega
    have HR := Lib.hid (numRead_any s (by omega) w hE)
    have HF : Hid (∀ W, Calls Tryd.prog 6 #[.string s] W fun e w' => e = .returned (.tuple #[.int .i64 (readF s.data.toList).1, .int .i64 (readF s.data.toList).2]) ∧ w' = W) := fun W => refRead_any s (by omega) W
    have hx := wr_ge n
    have hy := wr_le n
    have hrt : readF (bytes (Lib.itoa (wr n))).data.toList = (wr n, 0) := by
      show readF (Lib.itoa (wr n)) = _
      exact readF_itoa hx hy
    have hbs : (bytes (Lib.itoa (wr n))).size ≤ 1000000 := by
      rw [bytes_size]
      have := Lib.itoa_length_le (wr n) (by omega) (by omega)
      omega
    have HT : Hid (∀ W, Below w.heap.size w W → Calls Tryd.prog 7 #[.int .i64 n] W fun e w' => e = .returned (.string (bytes (Lib.itoa (wr n)))) ∧ Below W.heap.size W w') := fun W hW => numText_any n W (hT.below hW)
    have HFT : Hid (∀ W, Calls Tryd.prog 8 #[.int .i64 n] W fun e w' => e = .returned (.string (bytes (Lib.itoa (wr n)))) ∧ Below W.heap.size W w') := fun W => refText_any n W
    have HRT : Hid (∀ W, Below w.heap.size w W → Calls Tryd.prog 5 #[.string (bytes (Lib.itoa (wr n)))] W fun e w' => e = .returned (.tuple #[.int .i64 (wr n), .int .i64 0]) ∧ Below W.heap.size W w') := fun W hW => by
      have := numRead_any (bytes (Lib.itoa (wr n))) hbs W (hE.below hW)
      rw [hrt] at this
      exact this
    have HW : Hid (∀ W, Calls Tryd.prog 9 #[.int .i64 n] W fun e w' => e = .returned (.int .i64 (wr n)) ∧ W = w') := fun W => wrap_any n W
    clear hrt hbs hx hy hE hT
    generalize bytes (Lib.itoa (wr n)) = t at HT HFT HRT
    generalize wr n = v at HRT HW
    generalize readF s.data.toList = r at HR HF
    generalize r.1 = a at HR HF
    generalize r.2 = b at HR HF
    clear hs
    go_enter Tryd.func3, Tryd.ntmps3
    go_wp2_with (first
      | (go_at_call 5; refine HR.out.mono ?_; clear HR; rintro e w1 ⟨rfl, hb⟩; have B1 := Lib.hid hb; clear hb)
      | (go_at_call 6; refine (HF.out _).mono ?_; rintro e w2 ⟨rfl, rfl⟩)
      | (go_at_call 7; refine (HT.out _ B1.out).mono ?_; rintro e w3 ⟨rfl, hb⟩; have B3 := Lib.hid (below_then B1.out hb); clear hb)
      | (go_at_call 5; refine (HRT.out _ B3.out).mono ?_; rintro e w4 ⟨rfl, hb⟩; have B4 := Lib.hid (below_then B3.out hb); clear hb)
      | (go_at_call 4; refine (HC.out _).mono ?_; rintro e w' ⟨rfl, rfl⟩)
      | (go_at_call 8; refine (HFT.out _).mono ?_; rintro e w5 ⟨rfl, hb⟩; have B5 := Lib.hid (below_then B4.out hb); clear hb)
      | (go_at_call 9; refine (HW.out _).mono ?_; rintro e w' ⟨rfl, rfl⟩))
    go_ret
    exact ⟨rfl, B5.out⟩
end Go.Proofs.YtpdebbjbhciceaaDoor
