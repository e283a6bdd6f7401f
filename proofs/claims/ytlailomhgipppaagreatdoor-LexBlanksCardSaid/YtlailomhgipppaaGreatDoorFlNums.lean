/- Of, IsNaN on float words. -/
import Derived.Test.YtlailomhgipppaaGreatDoorChecked
import Derived.Test.YtlailomhgipppaaGreatDoorIeee
import Derived.WalkKit
import Derived.WalkLawsBesides
import Derived.Lib.Hide
namespace Go.Proofs.YtlailomhgipppaaGreatDoor
open Go.RowKit
set_option linter.unusedVariables false
set_option linter.unusedSimpArgs false

@[go_sem] theorem run_bits (b : Nat) (w : World) : (callFunc 34 #[.float .f64 b]).run Tryz.prog w = .ok (.value (.int .u64 b)) w := by
  rw [run_callFunc_extern (e := Extern.MathFloatBits.float64bits) Tryz.func34 (by kernel_rfl) rfl rfl (by kernel_rfl)]; rfl
theorem ret_int {k : IntKind} {a b : Int} (h : a = b) : Ending.returned (.int k a) = .returned (.int k b) := by rw [h]
theorem ret_bool {a b : Bool} (h : a = b) : Ending.returned (.bool a) = .returned (.bool b) := by rw [h]
theorem ret_nat {k : IntKind} {a b : Nat} (h : a = b) : Ending.returned (.int k (a : Int)) = .returned (.int k (b : Int)) := by rw [h]
theorem ret_str {a b : ByteArray} (h : a = b) : Ending.returned (.string a) = .returned (.string b) := by rw [h]
theorem isNaN_any (b : Nat) (w : World) : Calls Tryz.prog 47 #[.float .f64 b] w fun e w' => e = .returned (.bool (isNan b)) ∧ w = w' := by
  go_enter Tryz.func47, Tryz.ntmps47
  go_wp2
  go_ret
  exact ⟨ret_bool (order_self b), rfl⟩
theorem of_any (b : Nat) (w : World) : Calls Tryz.prog 40 #[.float .f64 b] w fun e w' => e = .returned (.int .u64 (canon b)) ∧ w = w' := by
  cases h : isNan b
  · go_enter Tryz.func40, Tryz.ntmps40
    go_wp2_with (go_at_call 47; refine (isNaN_any _ _).mono ?_; rintro e w' ⟨rfl, rfl⟩)
    go_ret
    exact ⟨ret_nat (canon_of h).symm, rfl⟩
  · go_enter Tryz.func40, Tryz.ntmps40
    go_wp2_with (go_at_call 47; refine (isNaN_any _ _).mono ?_; rintro e w' ⟨rfl, rfl⟩)
    go_ret
    exact ⟨ret_nat (canon_nan h).symm, rfl⟩
end Go.Proofs.YtlailomhgipppaaGreatDoor
