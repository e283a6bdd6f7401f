/- Texts of the proof, in build order: Nums. -/
import Derived.Test.YtcpgbekcbaelpaaGreatDoorProg
import Derived.Test.YtcpgbekcbaelpaaGreatDoorF01
import Derived.Test.YtcpgbekcbaelpaaGreatDoorF02
import Derived.WalkKit
import Derived.WalkLawsBesides
import Derived.Lib.Hide
import Derived.Deep.Draws
set_option linter.unusedVariables false
set_option linter.unusedSimpArgs false
set_option linter.unusedSectionVars false
/- What the small functions on numbers come to. -/
namespace Go.Proofs.YtcpgbekcbaelpaaGreatDoor
open Go.RowKit

@[go_sem] theorem run_bits (b : Nat) (w : World) : (callFunc 227 #[.float .f64 b]).run Tryz.prog w = .ok (.value (.int .u64 b)) w := by
  rw [run_callFunc_extern (e := Extern.MathFloatBits.float64bits) Tryz.func227 (by kernel_rfl) rfl rfl (by kernel_rfl)]; rfl
@[go_sem] theorem run_frombits (n : Int) (w : World) : (callFunc 228 #[.int .u64 n]).run Tryz.prog w = .ok (.value (.float .f64 n.toNat)) w := by
  rw [run_callFunc_extern (e := Extern.MathFloatBits.float64frombits) Tryz.func228 (by kernel_rfl) rfl rfl (by kernel_rfl)]; rfl

theorem ret_int {k : IntKind} {a b : Int} (h : a = b) : Ending.returned (.int k a) = .returned (.int k b) := by rw [h]
theorem ret_bool {a b : Bool} (h : a = b) : Ending.returned (.bool a) = .returned (.bool b) := by rw [h]
theorem ret_nat {k : IntKind} {a b : Nat} (h : a = b) : Ending.returned (.int k (a : Int)) = .returned (.int k (b : Int)) := by rw [h]
theorem isNaN_any (b : Nat) (w : World) : Calls Tryz.prog 226 #[.float .f64 b] w fun e w' => e = .returned (.bool (isNan b)) ∧ w = w' := by
  go_enter Tryz.func226, Tryz.ntmps226
  go_wp2
  go_ret
  exact ⟨ret_bool (order_self b), rfl⟩
theorem of_any (b : Nat) (w : World) : Calls Tryz.prog 201 #[.float .f64 b] w fun e w' => e = .returned (.int .u64 (canon b)) ∧ w = w' := by
  cases h : isNan b
  · go_enter Tryz.func201, Tryz.ntmps201
    go_wp2_with (go_at_call 226; refine (isNaN_any _ _).mono ?_; rintro e w' ⟨rfl, rfl⟩)
    go_ret
    exact ⟨ret_nat (canon_of h).symm, rfl⟩
  · go_enter Tryz.func201, Tryz.ntmps201
    go_wp2_with (go_at_call 226; refine (isNaN_any _ _).mono ?_; rintro e w' ⟨rfl, rfl⟩)
    go_ret
    exact ⟨ret_nat (canon_nan h).symm, rfl⟩
theorem asGo_any (n : Int) (w : World) : Calls Tryz.prog 202 #[.int .u64 n] w fun e w' => e = .returned (.float .f64 n.toNat) ∧ w = w' := by
  go_enter Tryz.func202, Tryz.ntmps202
  go_wp2
  go_ret
  exact ⟨rfl, rfl⟩
theorem wrap_any (n : Int) (w : World) : Calls Tryz.prog 137 #[.int .i64 n] w fun e w' => e = .returned (.int .i64 (wr n)) ∧ w = w' := by
  go_enter Tryz.func137, Tryz.ntmps137
  go_wp2
  go_ret
  exact ⟨ret_int (shl_shr n), rfl⟩
end Go.Proofs.YtcpgbekcbaelpaaGreatDoor
