/- Texts of the proof, in build order: Nums. -/
import Derived.Test.YtenikoecnfbfoaaDoorProg
import Derived.Test.YtenikoecnfbfoaaDoorB03
import Derived.Test.YtenikoecnfbfoaaDoorB04
import Derived.WalkKit
import Derived.WalkLawsBesides
import Derived.Lib.Hide
import Derived.Deep.Draws
/- What the small functions on numbers come to. -/
namespace Go.Proofs.YtenikoecnfbfoaaDoor
open Go.RowKit

@[go_sem] theorem run_bits (b : Nat) (w : World) : (callFunc 82 #[.float .f64 b]).run Tryd.prog w = .ok (.value (.int .u64 b)) w := by
  rw [run_callFunc_extern (e := Extern.MathFloatBits.float64bits) Tryd.func82 (by kernel_rfl) rfl rfl (by kernel_rfl)]; rfl
@[go_sem] theorem run_frombits (n : Int) (w : World) : (callFunc 83 #[.int .u64 n]).run Tryd.prog w = .ok (.value (.float .f64 n.toNat)) w := by
  rw [run_callFunc_extern (e := Extern.MathFloatBits.float64frombits) Tryd.func83 (by kernel_rfl) rfl rfl (by kernel_rfl)]; rfl

theorem ret_int {k : IntKind} {a b : Int} (h : a = b) : Ending.returned (.int k a) = .returned (.int k b) := by rw [h]
theorem ret_bool {a b : Bool} (h : a = b) : Ending.returned (.bool a) = .returned (.bool b) := by rw [h]
theorem ret_nat {k : IntKind} {a b : Nat} (h : a = b) : Ending.returned (.int k (a : Int)) = .returned (.int k (b : Int)) := by rw [h]
theorem ret_str {a b : ByteArray} (h : a = b) : Ending.returned (.string a) = .returned (.string b) := by rw [h]

theorem isNaN_any (b : Nat) (w : World) : Calls Tryd.prog 81 #[.float .f64 b] w fun e w' => e = .returned (.bool (isNan b)) ∧ w = w' := by
  go_enter Tryd.func81, Tryd.ntmps81
  go_wp2
  go_ret
  exact ⟨ret_bool (order_self b), rfl⟩
theorem of_any (b : Nat) (w : World) : Calls Tryd.prog 66 #[.float .f64 b] w fun e w' => e = .returned (.int .u64 (canon b)) ∧ w = w' := by
  cases h : isNan b
  · go_enter Tryd.func66, Tryd.ntmps66
    go_wp2_with (go_at_call 81; refine (isNaN_any _ _).mono ?_; rintro e w' ⟨rfl, rfl⟩)
    go_ret
    exact ⟨ret_nat (canon_of h).symm, rfl⟩
  · go_enter Tryd.func66, Tryd.ntmps66
    go_wp2_with (go_at_call 81; refine (isNaN_any _ _).mono ?_; rintro e w' ⟨rfl, rfl⟩)
    go_ret
    exact ⟨ret_nat (canon_nan h).symm, rfl⟩
theorem asGo_any (n : Int) (w : World) : Calls Tryd.prog 67 #[.int .u64 n] w fun e w' => e = .returned (.float .f64 n.toNat) ∧ w = w' := by
  go_enter Tryd.func67, Tryd.ntmps67
  go_wp2
  go_ret
  exact ⟨rfl, rfl⟩
theorem wrap_any (n : Int) (w : World) : Calls Tryd.prog 38 #[.int .i64 n] w fun e w' => e = .returned (.int .i64 (wr n)) ∧ w = w' := by
  go_enter Tryd.func38, Tryd.ntmps38
  go_wp2
  go_ret
  exact ⟨ret_int (shl_shr n), rfl⟩
end Go.Proofs.YtenikoecnfbfoaaDoor
