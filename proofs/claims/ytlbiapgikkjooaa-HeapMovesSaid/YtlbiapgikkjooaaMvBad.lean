/- HeapMoves where the number of cells is none. -/
import Derived.Test.YtlbiapgikkjooaaMvOpen
import Derived.Deep.CutBlock
import Derived.Test.YtlbiapgikkjooaaNil
import Derived.Test.YtlbiapgikkjooaaHeaps
import Derived.Test.YtlbiapgikkjooaaEnd
namespace Go.Proofs.Ytlbiapgikkjooaa
open Go.RowKit Go.Maps Hp
set_option linter.unusedSimpArgs false
set_option linter.unusedSectionVars false
set_option linter.unusedVariables false
set_option maxRecDepth 100000 in
set_option maxHeartbeats 4000000 in
theorem heapMoves_bad (n : Int) (len cap : Nat) (ao : Option Addr) (W : World) (hbad : n < 0 ∨ 4194304 < n) :
    Calls Try.prog 8 #[.int .i64 n, .slice ao len cap] W fun e w' => e = .returned (.bool true) ∧ Below W.heap.size W w' := by
  have HNB := Lib.hid (fun w => new_bad n hbad w)
  have HBD := Lib.hid hbad
  have HB0 : Hid (Below W.heap.size W W) := Below.refl _ _
  clear hbad
  by_cases hn : n < 0
  · have d1 : decide (n < 0) = true := decide_eq_true hn
    go_enter Try.func8, Try.ntmps8
    go_wp2_with
      (first
      | (go_at_call 31; refine (none_any _).mono ?_; rintro e w' ⟨rfl, rfl⟩)
      | (go_at_call 15; refine (nil_push _ _).mono ?_; rintro e w' ⟨rfl, rfl⟩)
      | (go_at_call 17; refine (nil_drop _ _).mono ?_; rintro e w' ⟨rfl, rfl⟩)
      | (go_at_call 20; refine (nil_pin _ _ _).mono ?_; rintro e w' ⟨rfl, rfl⟩)
      | (go_at_call 24; refine (nil_unpin _ _).mono ?_; rintro e w' ⟨rfl, rfl⟩)
      | (go_at_call 23; refine (nil_set _ _).mono ?_; rintro e w' ⟨rfl, ns, rfl⟩)
      | (go_at_call 22; refine (nil_pinned _ _).mono ?_; rintro e w' ⟨rfl, rfl⟩)
      | (go_at_call 10; refine (heaps_any _).mono ?_; rintro e w3 ⟨rfl, hb3⟩; have HB3 := Lib.hid hb3; clear hb3)
      | (go_at_call 16; refine (nil_make _ _ _).mono ?_; rintro e w' ⟨rfl, rfl⟩)
      | (go_at_call 26; refine (nil_raw _ _ _).mono ?_; rintro e w' ⟨rfl, rfl⟩)
      | (go_at_call 19; refine (nil_height _).mono ?_; rintro e w' ⟨rfl, rfl⟩)
      | (go_at_call 18; refine (nil_live _).mono ?_; rintro e w' ⟨rfl, rfl⟩)
      | (go_at_call 32; refine (nil_cells _).mono ?_; rintro e w' ⟨rfl, rfl⟩)
      | (go_at_call 27; refine (nil_pop _).mono ?_; rintro e w' ⟨rfl, np, rfl⟩)
      | (go_at_call 14; refine (HNB.out _).mono ?_; rintro e w' ⟨rfl, rfl⟩; dsimp only)
      | (go_at_call 9; refine (imm_any _ _).mono ?_; rintro e w' ⟨rfl, rfl⟩))
    go_ret
    exact ⟨rfl, below_drewN ((below_drewN (Below.refl _ _) ns).trans (HB3.out.mono (Nat.le_refl _))) np⟩
  · have d1 : decide (n < 0) = false := decide_eq_false hn
    have d3 : (4194304 : Int) < n := by rcases HBD.out with h | h; exact absurd h hn; exact h
    have d2 : decide ((4194304 : Int) < n) = true := decide_eq_true d3
    go_enter Try.func8, Try.ntmps8
    go_wp2_with
      (first
      | (go_at_call 31; refine (none_any _).mono ?_; rintro e w' ⟨rfl, rfl⟩)
      | (go_at_call 15; refine (nil_push _ _).mono ?_; rintro e w' ⟨rfl, rfl⟩)
      | (go_at_call 17; refine (nil_drop _ _).mono ?_; rintro e w' ⟨rfl, rfl⟩)
      | (go_at_call 20; refine (nil_pin _ _ _).mono ?_; rintro e w' ⟨rfl, rfl⟩)
      | (go_at_call 24; refine (nil_unpin _ _).mono ?_; rintro e w' ⟨rfl, rfl⟩)
      | (go_at_call 23; refine (nil_set _ _).mono ?_; rintro e w' ⟨rfl, ns, rfl⟩)
      | (go_at_call 22; refine (nil_pinned _ _).mono ?_; rintro e w' ⟨rfl, rfl⟩)
      | (go_at_call 10; refine (heaps_any _).mono ?_; rintro e w3 ⟨rfl, hb3⟩; have HB3 := Lib.hid hb3; clear hb3)
      | (go_at_call 16; refine (nil_make _ _ _).mono ?_; rintro e w' ⟨rfl, rfl⟩)
      | (go_at_call 26; refine (nil_raw _ _ _).mono ?_; rintro e w' ⟨rfl, rfl⟩)
      | (go_at_call 19; refine (nil_height _).mono ?_; rintro e w' ⟨rfl, rfl⟩)
      | (go_at_call 18; refine (nil_live _).mono ?_; rintro e w' ⟨rfl, rfl⟩)
      | (go_at_call 32; refine (nil_cells _).mono ?_; rintro e w' ⟨rfl, rfl⟩)
      | (go_at_call 27; refine (nil_pop _).mono ?_; rintro e w' ⟨rfl, np, rfl⟩)
      | (go_at_call 14; refine (HNB.out _).mono ?_; rintro e w' ⟨rfl, rfl⟩; dsimp only)
      | (go_at_call 9; refine (imm_any _ _).mono ?_; rintro e w' ⟨rfl, rfl⟩))
    go_ret
    exact ⟨rfl, below_drewN ((below_drewN (Below.refl _ _) ns).trans (HB3.out.mono (Nat.le_refl _))) np⟩
end Go.Proofs.Ytlbiapgikkjooaa
