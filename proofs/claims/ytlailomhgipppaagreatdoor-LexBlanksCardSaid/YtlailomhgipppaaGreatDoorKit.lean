/- What the walks of this seat lean on. -/
import Derived.Test.YtlailomhgipppaaGreatDoorDigPlain
import Derived.Test.YtlailomhgipppaaGreatDoorMem
import Derived.Lib.ConvBytes
import Derived.Lib.Strings
import Derived.Lib.Walk
import Derived.Lib.Hide
import Derived.Lib.IfaceNeq
import Derived.Laws.Strings3
import Derived.Laws.Closers25
import Derived.Laws.Closers25b
import Derived.WalkKit
import Derived.BigCall
import Derived.BigGuard
import Derived.Deep.Upon
import Derived.Deep.LoopGhost
import Derived.Deep.DeepCutAuto
import Derived.Deep.QuietTactic
import Derived.BigQuiet
import Derived.Deep.RegionHeld3
import Derived.Outline
import Derived.Test.YtlailomhgipppaaGreatDoorChecked
namespace Go.Proofs.YtlailomhgipppaaGreatDoor
set_option linter.unusedSimpArgs false
set_option linter.unusedVariables false
end Go.Proofs.YtlailomhgipppaaGreatDoor
