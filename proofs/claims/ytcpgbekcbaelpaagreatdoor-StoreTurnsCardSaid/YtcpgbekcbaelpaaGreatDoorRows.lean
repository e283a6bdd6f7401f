/-
  NARROWER THAN 'FOR EVERY INPUT', by the rows' own cells (each row's printed sentence says how): StoreNexts: laid · StoreFills: laid · StorePlaces: laid · StoreTurns: loops, laid · GraphStores: loops, laid · ScriptorBatches: loops, laid.
  DERIVED. THE GIVEN ROWS OF THIS SEAT. 6 by the template 'for every input the law returns true; each argument reads behind the call as it read before'; 0 by the template 'total and deterministic' (their statements: YtcpgbekcbaelpaaGreatDoorTotals.lean).
  GIVEN WITH THE SEED: the statements are not yours to turn. If you find one false, say at which input.
  Laid BY PROGRAM, IN A SANDBOX (cutbox-rows.mjs): the forced cells as the released guide's own fill.sh prints them over the translation 1f70f60c9a6e8911… (all of the seat's roots in one cut). By AI agents, Wed Nov 11 2026. No macro, syntax, notation, axiom, sorry.
-/
import Derived.Test.YtcpgbekcbaelpaaGreatDoorChecked
import GoSem.Claim
import GoSem.ClaimJoined
import GoSem.ClaimMapViews
import Derived.JoinedTies
import Derived.KernelRfl
namespace Go.Proofs.YtcpgbekcbaelpaaGreatDoor
/- THE CELL 'sum', in the pinned program and in every row, IS THE sha256 OF THE DUMP (.gsa) THAT YtcpgbekcbaelpaaGreatDoorProg.lean LOADS. Nothing in Lean hashes anything: it is a label: what it is worth is what the hold of that sum in a sandbox is worth. -/
noncomputable def Tryz.pinned : Pinned := { name := "ytcpgbekcbaelpaagreatdoor", sum := "1f70f60c9a6e8911595d432f80a857968b104eaf9676c871eec274508f73ada5", checked := Tryz.checked }
namespace Rows
def none {H : Type} : Left H := { results := [], args := [] }

/- WHAT THE LISTED PACKAGE-LEVEL VARIABLES READ AS WHEN THE CALL BEGINS. Each datum BY PROGRAM (the guide's laid-datum.mjs) off the statement by which the dump's own 'gosem.cut.vars' lays the variable. In a bare row this is a premise. The card (YtcpgbekcbaelpaaGreatDoorCards.lean) ties it to the program's text. -/
def laid_scriptor_crc_half {H : Type} : DataW H := .agg [.lit (.int .u32 0), .lit (.int .u32 274646895), .lit (.int .u32 549293790), .lit (.int .u32 820201905), .lit (.int .u32 1098587580), .lit (.int .u32 1361435347), .lit (.int .u32 1640403810), .lit (.int .u32 1905808397), .lit (.int .u32 2197175160), .lit (.int .u32 2460548119), .lit (.int .u32 2722870694), .lit (.int .u32 2987750089), .lit (.int .u32 3280807620), .lit (.int .u32 3553878443), .lit (.int .u32 3811616794), .lit (.int .u32 4084100981)]
def laid_math_bits_deBruijn32tab {H : Type} : DataW H := .agg [.lit (.int .u8 0), .lit (.int .u8 1), .lit (.int .u8 28), .lit (.int .u8 2), .lit (.int .u8 29), .lit (.int .u8 14), .lit (.int .u8 24), .lit (.int .u8 3), .lit (.int .u8 30), .lit (.int .u8 22), .lit (.int .u8 20), .lit (.int .u8 15), .lit (.int .u8 25), .lit (.int .u8 17), .lit (.int .u8 4), .lit (.int .u8 8), .lit (.int .u8 31), .lit (.int .u8 27), .lit (.int .u8 13), .lit (.int .u8 23), .lit (.int .u8 21), .lit (.int .u8 19), .lit (.int .u8 16), .lit (.int .u8 7), .lit (.int .u8 26), .lit (.int .u8 12), .lit (.int .u8 18), .lit (.int .u8 6), .lit (.int .u8 11), .lit (.int .u8 5), .lit (.int .u8 10), .lit (.int .u8 9)]
def laid_math_bits_deBruijn64tab {H : Type} : DataW H := .agg [.lit (.int .u8 0), .lit (.int .u8 1), .lit (.int .u8 56), .lit (.int .u8 2), .lit (.int .u8 57), .lit (.int .u8 49), .lit (.int .u8 28), .lit (.int .u8 3), .lit (.int .u8 61), .lit (.int .u8 58), .lit (.int .u8 42), .lit (.int .u8 50), .lit (.int .u8 38), .lit (.int .u8 29), .lit (.int .u8 17), .lit (.int .u8 4), .lit (.int .u8 62), .lit (.int .u8 47), .lit (.int .u8 59), .lit (.int .u8 36), .lit (.int .u8 45), .lit (.int .u8 43), .lit (.int .u8 51), .lit (.int .u8 22), .lit (.int .u8 53), .lit (.int .u8 39), .lit (.int .u8 33), .lit (.int .u8 30), .lit (.int .u8 24), .lit (.int .u8 18), .lit (.int .u8 12), .lit (.int .u8 5), .lit (.int .u8 63), .lit (.int .u8 55), .lit (.int .u8 48), .lit (.int .u8 27), .lit (.int .u8 60), .lit (.int .u8 41), .lit (.int .u8 37), .lit (.int .u8 16), .lit (.int .u8 46), .lit (.int .u8 35), .lit (.int .u8 44), .lit (.int .u8 21), .lit (.int .u8 52), .lit (.int .u8 32), .lit (.int .u8 23), .lit (.int .u8 11), .lit (.int .u8 54), .lit (.int .u8 26), .lit (.int .u8 40), .lit (.int .u8 15), .lit (.int .u8 34), .lit (.int .u8 20), .lit (.int .u8 31), .lit (.int .u8 10), .lit (.int .u8 25), .lit (.int .u8 14), .lit (.int .u8 19), .lit (.int .u8 9), .lit (.int .u8 13), .lit (.int .u8 8), .lit (.int .u8 7), .lit (.int .u8 6)]
def laid_internal_strconv_uint64pow10 {H : Type} : DataW H := .agg [.lit (.int .u64 1), .lit (.int .u64 10), .lit (.int .u64 100), .lit (.int .u64 1000), .lit (.int .u64 10000), .lit (.int .u64 100000), .lit (.int .u64 1000000), .lit (.int .u64 10000000), .lit (.int .u64 100000000), .lit (.int .u64 1000000000), .lit (.int .u64 10000000000), .lit (.int .u64 100000000000), .lit (.int .u64 1000000000000), .lit (.int .u64 10000000000000), .lit (.int .u64 100000000000000), .lit (.int .u64 1000000000000000), .lit (.int .u64 10000000000000000), .lit (.int .u64 100000000000000000), .lit (.int .u64 1000000000000000000), .lit (.int .u64 10000000000000000000)]

/-- 'scriptorlaw07.StoreNexts': WHATEVER THE INPUT: true; the input reads as it did. -/
def storeNextsSpec : ChangeSpec := { name := "storeNexts", fn := fun _ => fun
  | [d1, d2] => { results := [.lit (.bool true)], args := [d1, d2] }
  | _ => none }
def storeNextsRow : OpenClaim := { program := "ytcpgbekcbaelpaagreatdoor", sum := "1f70f60c9a6e8911595d432f80a857968b104eaf9676c871eec274508f73ada5", func := "scriptor/scriptorlaw07.StoreNexts", spec := "storeNexts", inPlace := ["math.Float64frombits", "math.Float64bits", "maps.clone"], unfollowed := true, recurses := true, named := ["scriptor/crc.half"], apart := false, laid := [("scriptor/crc.half", laid_scriptor_crc_half)] }
def StoreNextsSaid : Prop := storeNextsRow.holds Tryz.pinned (OpenSpec.ofChange storeNextsSpec)

/-- ITS FALSE NEIGHBOUR: 'it returns false'. Refute it at one input. -/
def storeNextsWrong : ChangeSpec := { name := "storeNexts", fn := fun _ => fun
  | [d1, d2] => { results := [.lit (.bool false)], args := [d1, d2] }
  | _ => none }
def StoreNextsWrongFalsely : Prop := storeNextsRow.holds Tryz.pinned (OpenSpec.ofChange storeNextsWrong)

/-- 'scriptorlaw07.StoreFills': WHATEVER THE INPUT: true; the input reads as it did. -/
def storeFillsSpec : ChangeSpec := { name := "storeFills", fn := fun _ => fun
  | [d1, d2, d3] => { results := [.lit (.bool true)], args := [d1, d2, d3] }
  | _ => none }
def storeFillsRow : OpenClaim := { program := "ytcpgbekcbaelpaagreatdoor", sum := "1f70f60c9a6e8911595d432f80a857968b104eaf9676c871eec274508f73ada5", func := "scriptor/scriptorlaw07.StoreFills", spec := "storeFills", inPlace := ["math.Float64frombits", "math.Float64bits", "maps.clone"], unfollowed := true, recurses := true, named := ["scriptor/crc.half"], apart := false, laid := [("scriptor/crc.half", laid_scriptor_crc_half)] }
def StoreFillsSaid : Prop := storeFillsRow.holds Tryz.pinned (OpenSpec.ofChange storeFillsSpec)

/-- ITS FALSE NEIGHBOUR: 'it returns false'. Refute it at one input. -/
def storeFillsWrong : ChangeSpec := { name := "storeFills", fn := fun _ => fun
  | [d1, d2, d3] => { results := [.lit (.bool false)], args := [d1, d2, d3] }
  | _ => none }
def StoreFillsWrongFalsely : Prop := storeFillsRow.holds Tryz.pinned (OpenSpec.ofChange storeFillsWrong)

/-- 'scriptorlaw07.StorePlaces': WHATEVER THE INPUT: true; the input reads as it did. -/
def storePlacesSpec : ChangeSpec := { name := "storePlaces", fn := fun _ => fun
  | [d1, d2] => { results := [.lit (.bool true)], args := [d1, d2] }
  | _ => none }
def storePlacesRow : OpenClaim := { program := "ytcpgbekcbaelpaagreatdoor", sum := "1f70f60c9a6e8911595d432f80a857968b104eaf9676c871eec274508f73ada5", func := "scriptor/scriptorlaw07.StorePlaces", spec := "storePlaces", inPlace := ["math.Float64frombits", "math.Float64bits", "maps.clone"], unfollowed := true, recurses := true, named := ["scriptor/crc.half"], apart := false, laid := [("scriptor/crc.half", laid_scriptor_crc_half)] }
def StorePlacesSaid : Prop := storePlacesRow.holds Tryz.pinned (OpenSpec.ofChange storePlacesSpec)

/-- ITS FALSE NEIGHBOUR: 'it returns false'. Refute it at one input. -/
def storePlacesWrong : ChangeSpec := { name := "storePlaces", fn := fun _ => fun
  | [d1, d2] => { results := [.lit (.bool false)], args := [d1, d2] }
  | _ => none }
def StorePlacesWrongFalsely : Prop := storePlacesRow.holds Tryz.pinned (OpenSpec.ofChange storePlacesWrong)

/-- 'scriptorlaw07.StoreTurns': WHATEVER THE INPUT: true; the input reads as it did. -/
def storeTurnsSpec : ChangeSpec := { name := "storeTurns", fn := fun _ => fun
  | [d1, d2, d3] => { results := [.lit (.bool true)], args := [d1, d2, d3] }
  | _ => none }
def storeTurnsRow : OpenClaim := { program := "ytcpgbekcbaelpaagreatdoor", sum := "1f70f60c9a6e8911595d432f80a857968b104eaf9676c871eec274508f73ada5", func := "scriptor/scriptorlaw07.StoreTurns", spec := "storeTurns", inPlace := ["math.Float64frombits", "math.Float64bits", "maps.clone"], unfollowed := true, recurses := true, named := ["scriptor/crc.half"], loops := true, apart := false, laid := [("scriptor/crc.half", laid_scriptor_crc_half)] }
def StoreTurnsSaid : Prop := storeTurnsRow.holds Tryz.pinned (OpenSpec.ofChange storeTurnsSpec)

/-- ITS FALSE NEIGHBOUR: 'it returns false'. Refute it at one input. -/
def storeTurnsWrong : ChangeSpec := { name := "storeTurns", fn := fun _ => fun
  | [d1, d2, d3] => { results := [.lit (.bool false)], args := [d1, d2, d3] }
  | _ => none }
def StoreTurnsWrongFalsely : Prop := storeTurnsRow.holds Tryz.pinned (OpenSpec.ofChange storeTurnsWrong)

/-- 'scriptorlaw08.GraphStores': WHATEVER THE INPUT: true; the input reads as it did. -/
def graphStoresSpec : ChangeSpec := { name := "graphStores", fn := fun _ => fun
  | [d1, d2] => { results := [.lit (.bool true)], args := [d1, d2] }
  | _ => none }
def graphStoresRow : OpenClaim := { program := "ytcpgbekcbaelpaagreatdoor", sum := "1f70f60c9a6e8911595d432f80a857968b104eaf9676c871eec274508f73ada5", func := "scriptor/scriptorlaw08.GraphStores", spec := "graphStores", inPlace := ["math.Float64frombits", "math.Float64bits", "internal/bytealg.abigen_runtime_cmpstring", "internal/abi.NoEscape", "internal/bytealg.MakeNoZero", "maps.clone"], unfollowed := true, recurses := true, named := ["internal/strconv.uint64pow10", "math/bits.deBruijn32tab", "math/bits.deBruijn64tab", "scriptor/crc.half"], loops := true, apart := false, laid := [("math/bits.deBruijn32tab", laid_math_bits_deBruijn32tab), ("math/bits.deBruijn64tab", laid_math_bits_deBruijn64tab), ("internal/strconv.uint64pow10", laid_internal_strconv_uint64pow10), ("scriptor/crc.half", laid_scriptor_crc_half)] }
def GraphStoresSaid : Prop := graphStoresRow.holds Tryz.pinned (OpenSpec.ofChange graphStoresSpec)

/-- ITS FALSE NEIGHBOUR: 'it returns false'. Refute it at one input. -/
def graphStoresWrong : ChangeSpec := { name := "graphStores", fn := fun _ => fun
  | [d1, d2] => { results := [.lit (.bool false)], args := [d1, d2] }
  | _ => none }
def GraphStoresWrongFalsely : Prop := graphStoresRow.holds Tryz.pinned (OpenSpec.ofChange graphStoresWrong)

/-- 'scriptortop.ScriptorBatches': WHATEVER THE INPUT: true; the input reads as it did. -/
def scriptorBatchesSpec : ChangeSpec := { name := "scriptorBatches", fn := fun _ => fun
  | [d] => { results := [.lit (.bool true)], args := [d] }
  | _ => none }
def scriptorBatchesRow : OpenClaim := { program := "ytcpgbekcbaelpaagreatdoor", sum := "1f70f60c9a6e8911595d432f80a857968b104eaf9676c871eec274508f73ada5", func := "scriptor/scriptortop.ScriptorBatches", spec := "scriptorBatches", inPlace := ["math.Float64frombits", "math.Float64bits", "maps.clone"], unfollowed := true, recurses := true, named := ["scriptor/crc.half"], loops := true, apart := false, laid := [("scriptor/crc.half", laid_scriptor_crc_half)] }
def ScriptorBatchesSaid : Prop := scriptorBatchesRow.holds Tryz.pinned (OpenSpec.ofChange scriptorBatchesSpec)

/-- ITS FALSE NEIGHBOUR: 'it returns false'. Refute it at one input. -/
def scriptorBatchesWrong : ChangeSpec := { name := "scriptorBatches", fn := fun _ => fun
  | [d] => { results := [.lit (.bool false)], args := [d] }
  | _ => none }
def ScriptorBatchesWrongFalsely : Prop := scriptorBatchesRow.holds Tryz.pinned (OpenSpec.ofChange scriptorBatchesWrong)

/- THE SECOND FORM. 'bulk': how many values and letters a reading holds, each counted each time it is reached (what is shared counts as often as it is met; a slice's spare places count too). A statement '..UptoSaid' is the law's where the arguments, and the package variables that the reading takes, are together of bulk at most 1048576: NARROWER than '..Said'. Prove '..Said' where nothing that the law and all that it calls make is longer than what came in: it says more and counts as full. Else prove '..UptoSaid'. A law counts once. -/
mutual
def uptoBulk {H : Type} : DataW H → Nat
  | .lit (.string bytes) => bytes.length + 1
  | .lit _ => 1
  | .nil => 1
  | .ptr d => uptoBulk d + 1
  | .slice elems spare => uptoBulkAll elems + uptoBulkAll spare + 1
  | .agg parts => uptoBulkAll parts + 1
  | .iface _ d => uptoBulk d + 1
  | .map entries => uptoBulkEntries entries + 1
  | .held _ => 1
def uptoBulkAll {H : Type} : List (DataW H) → Nat
  | [] => 0
  | d :: r => uptoBulk d + uptoBulkAll r
def uptoBulkEntries {H : Type} : List (Lit × DataW H) → Nat
  | [] => 0
  | x :: r => uptoBulkEntry x + uptoBulkEntries r
def uptoBulkEntry {H : Type} : Lit × DataW H → Nat
  | (.string bytes, d) => bytes.length + uptoBulk d + 1
  | (_, d) => uptoBulk d + 1
 end
def uptoSmall : (H : Type) → List (DataW H) → Bool := fun _ ds => decide (uptoBulkAll ds ≤ 1048576)
def OpenSpec.upto (s : _root_.Go.ChangeSpec) : _root_.Go.OpenSpec := { _root_.Go.OpenSpec.ofChange s with cond := some uptoSmall }

/-- 'scriptorlaw07.StoreNexts', WHERE WHAT IT READS IS OF BULK AT MOST 1048576: true; the input reads as it did. -/
def storeNextsUptoRow : OpenClaim := { program := "ytcpgbekcbaelpaagreatdoor", sum := "1f70f60c9a6e8911595d432f80a857968b104eaf9676c871eec274508f73ada5", func := "scriptor/scriptorlaw07.StoreNexts", spec := "storeNexts", inPlace := ["math.Float64frombits", "math.Float64bits", "maps.clone"], unfollowed := true, recurses := true, named := ["scriptor/crc.half"], apart := false, laid := [("scriptor/crc.half", laid_scriptor_crc_half)], narrowed := true }
def StoreNextsUptoSaid : Prop := storeNextsUptoRow.holds Tryz.pinned (OpenSpec.upto storeNextsSpec)

/-- 'scriptorlaw07.StoreFills', WHERE WHAT IT READS IS OF BULK AT MOST 1048576: true; the input reads as it did. -/
def storeFillsUptoRow : OpenClaim := { program := "ytcpgbekcbaelpaagreatdoor", sum := "1f70f60c9a6e8911595d432f80a857968b104eaf9676c871eec274508f73ada5", func := "scriptor/scriptorlaw07.StoreFills", spec := "storeFills", inPlace := ["math.Float64frombits", "math.Float64bits", "maps.clone"], unfollowed := true, recurses := true, named := ["scriptor/crc.half"], apart := false, laid := [("scriptor/crc.half", laid_scriptor_crc_half)], narrowed := true }
def StoreFillsUptoSaid : Prop := storeFillsUptoRow.holds Tryz.pinned (OpenSpec.upto storeFillsSpec)

/-- 'scriptorlaw07.StorePlaces', WHERE WHAT IT READS IS OF BULK AT MOST 1048576: true; the input reads as it did. -/
def storePlacesUptoRow : OpenClaim := { program := "ytcpgbekcbaelpaagreatdoor", sum := "1f70f60c9a6e8911595d432f80a857968b104eaf9676c871eec274508f73ada5", func := "scriptor/scriptorlaw07.StorePlaces", spec := "storePlaces", inPlace := ["math.Float64frombits", "math.Float64bits", "maps.clone"], unfollowed := true, recurses := true, named := ["scriptor/crc.half"], apart := false, laid := [("scriptor/crc.half", laid_scriptor_crc_half)], narrowed := true }
def StorePlacesUptoSaid : Prop := storePlacesUptoRow.holds Tryz.pinned (OpenSpec.upto storePlacesSpec)

/-- 'scriptorlaw07.StoreTurns', WHERE WHAT IT READS IS OF BULK AT MOST 1048576: true; the input reads as it did. -/
def storeTurnsUptoRow : OpenClaim := { program := "ytcpgbekcbaelpaagreatdoor", sum := "1f70f60c9a6e8911595d432f80a857968b104eaf9676c871eec274508f73ada5", func := "scriptor/scriptorlaw07.StoreTurns", spec := "storeTurns", inPlace := ["math.Float64frombits", "math.Float64bits", "maps.clone"], unfollowed := true, recurses := true, named := ["scriptor/crc.half"], loops := true, apart := false, laid := [("scriptor/crc.half", laid_scriptor_crc_half)], narrowed := true }
def StoreTurnsUptoSaid : Prop := storeTurnsUptoRow.holds Tryz.pinned (OpenSpec.upto storeTurnsSpec)

/-- 'scriptorlaw08.GraphStores', WHERE WHAT IT READS IS OF BULK AT MOST 1048576: true; the input reads as it did. -/
def graphStoresUptoRow : OpenClaim := { program := "ytcpgbekcbaelpaagreatdoor", sum := "1f70f60c9a6e8911595d432f80a857968b104eaf9676c871eec274508f73ada5", func := "scriptor/scriptorlaw08.GraphStores", spec := "graphStores", inPlace := ["math.Float64frombits", "math.Float64bits", "internal/bytealg.abigen_runtime_cmpstring", "internal/abi.NoEscape", "internal/bytealg.MakeNoZero", "maps.clone"], unfollowed := true, recurses := true, named := ["internal/strconv.uint64pow10", "math/bits.deBruijn32tab", "math/bits.deBruijn64tab", "scriptor/crc.half"], loops := true, apart := false, laid := [("math/bits.deBruijn32tab", laid_math_bits_deBruijn32tab), ("math/bits.deBruijn64tab", laid_math_bits_deBruijn64tab), ("internal/strconv.uint64pow10", laid_internal_strconv_uint64pow10), ("scriptor/crc.half", laid_scriptor_crc_half)], narrowed := true }
def GraphStoresUptoSaid : Prop := graphStoresUptoRow.holds Tryz.pinned (OpenSpec.upto graphStoresSpec)

/-- 'scriptortop.ScriptorBatches', WHERE WHAT IT READS IS OF BULK AT MOST 1048576: true; the input reads as it did. -/
def scriptorBatchesUptoRow : OpenClaim := { program := "ytcpgbekcbaelpaagreatdoor", sum := "1f70f60c9a6e8911595d432f80a857968b104eaf9676c871eec274508f73ada5", func := "scriptor/scriptortop.ScriptorBatches", spec := "scriptorBatches", inPlace := ["math.Float64frombits", "math.Float64bits", "maps.clone"], unfollowed := true, recurses := true, named := ["scriptor/crc.half"], loops := true, apart := false, laid := [("scriptor/crc.half", laid_scriptor_crc_half)], narrowed := true }
def ScriptorBatchesUptoSaid : Prop := scriptorBatchesUptoRow.holds Tryz.pinned (OpenSpec.upto scriptorBatchesSpec)

end Rows
end Go.Proofs.YtcpgbekcbaelpaaGreatDoor
