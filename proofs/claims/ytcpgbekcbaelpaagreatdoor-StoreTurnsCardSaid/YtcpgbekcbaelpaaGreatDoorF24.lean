/- Texts of the proof, in build order: Quote. -/
import Derived.Test.YtcpgbekcbaelpaaGreatDoorF14
import Derived.Test.YtcpgbekcbaelpaaGreatDoorF23
import Derived.Deep.RegionHeld3
set_option linter.unusedVariables false
set_option linter.unusedSimpArgs false
set_option linter.unusedSectionVars false
/- The program's quote. -/
namespace Go.Proofs.YtcpgbekcbaelpaaGreatDoor
open Go.RowKit Go.Maps Wr
set_option linter.unusedVariables false

def hexB (n : Nat) : UInt8 := if n < 10 then UInt8.ofNat (48 + n) else UInt8.ofNat (87 + n)
def qb (c : UInt8) : List UInt8 := if c = 34 ∨ c = 92 then [92, c] else if c < 32 ∨ 126 < c then [92, 120, hexB (c.toNat / 16), hexB (c.toNat % 16)] else [c]
def quoteB (s : List UInt8) : List UInt8 := 34 :: s.flatMap qb ++ [34]
end Go.Proofs.YtcpgbekcbaelpaaGreatDoor
