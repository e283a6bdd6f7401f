/-
  No cell of these rows narrows 'for every input' (looked for: loops, veiled, ifaces, maps, wideKeys, modest, calm, conditions, laid).
  DERIVED. THE GIVEN ROWS OF THIS SEAT. 6 by the template 'for every input the law returns true; each argument reads behind the call as it read before'; 0 by the template 'total and deterministic' (their statements: YtlbiapgikkjooaaTotals.lean).
  GIVEN WITH THE SEED: the statements are not yours to turn. If you find one false, say at which input.
  Laid BY PROGRAM, IN A SANDBOX (cutbox-rows.mjs): the forced cells as the released guide's own fill.sh prints them over the translation dedce0120d7757d0… (all of the seat's roots in one cut). By AI agents, Wed Nov 11 2026. No macro, syntax, notation, axiom, sorry.
-/
import Derived.Test.YtlbiapgikkjooaaChecked
import GoSem.Claim
import GoSem.ClaimJoined
import GoSem.ClaimMapViews
import Derived.JoinedTies
import Derived.KernelRfl
namespace Go.Proofs.Ytlbiapgikkjooaa
/- THE CELL 'sum', in the pinned program and in every row, IS THE sha256 OF THE DUMP (.gsa) THAT YtlbiapgikkjooaaProg.lean LOADS. Nothing in Lean hashes anything: it is a label: what it is worth is what the hold of that sum in a sandbox is worth. -/
noncomputable def Try.pinned : Pinned := { name := "ytlbiapgikkjooaa", sum := "dedce0120d7757d0e7bd80bcde2530da9d2a98e4e7cfb7de3ecbe8ee948d6996", checked := Try.checked }
namespace Rows
def none {H : Type} : Left H := { results := [], args := [] }

/-- 'scriptorlaw18.HeapWords': WHATEVER THE INPUT: true; the input reads as it did. -/
def heapWordsSpec : ChangeSpec := { name := "heapWords", fn := fun _ => fun
  | [d1, d2] => { results := [.lit (.bool true)], args := [d1, d2] }
  | _ => none }
def heapWordsRow : OpenClaim := { program := "ytlbiapgikkjooaa", sum := "dedce0120d7757d0e7bd80bcde2530da9d2a98e4e7cfb7de3ecbe8ee948d6996", func := "scriptor/scriptorlaw18.HeapWords", spec := "heapWords", apart := false }
def HeapWordsSaid : Prop := heapWordsRow.holds Try.pinned (OpenSpec.ofChange heapWordsSpec)

/-- ITS FALSE NEIGHBOUR: 'it returns false'. Refute it at one input. -/
def heapWordsWrong : ChangeSpec := { name := "heapWords", fn := fun _ => fun
  | [d1, d2] => { results := [.lit (.bool false)], args := [d1, d2] }
  | _ => none }
def HeapWordsWrongFalsely : Prop := heapWordsRow.holds Try.pinned (OpenSpec.ofChange heapWordsWrong)

/-- 'scriptorlaw18.HeapFills': WHATEVER THE INPUT: true; the input reads as it did. -/
def heapFillsSpec : ChangeSpec := { name := "heapFills", fn := fun _ => fun
  | [d1, d2, d3] => { results := [.lit (.bool true)], args := [d1, d2, d3] }
  | _ => none }
def heapFillsRow : OpenClaim := { program := "ytlbiapgikkjooaa", sum := "dedce0120d7757d0e7bd80bcde2530da9d2a98e4e7cfb7de3ecbe8ee948d6996", func := "scriptor/scriptorlaw18.HeapFills", spec := "heapFills", apart := false }
def HeapFillsSaid : Prop := heapFillsRow.holds Try.pinned (OpenSpec.ofChange heapFillsSpec)

/-- ITS FALSE NEIGHBOUR: 'it returns false'. Refute it at one input. -/
def heapFillsWrong : ChangeSpec := { name := "heapFills", fn := fun _ => fun
  | [d1, d2, d3] => { results := [.lit (.bool false)], args := [d1, d2, d3] }
  | _ => none }
def HeapFillsWrongFalsely : Prop := heapFillsRow.holds Try.pinned (OpenSpec.ofChange heapFillsWrong)

/-- 'scriptorlaw18.HeapRings': WHATEVER THE INPUT: true; the input reads as it did. -/
def heapRingsSpec : ChangeSpec := { name := "heapRings", fn := fun _ => fun
  | [d1, d2] => { results := [.lit (.bool true)], args := [d1, d2] }
  | _ => none }
def heapRingsRow : OpenClaim := { program := "ytlbiapgikkjooaa", sum := "dedce0120d7757d0e7bd80bcde2530da9d2a98e4e7cfb7de3ecbe8ee948d6996", func := "scriptor/scriptorlaw18.HeapRings", spec := "heapRings", apart := false }
def HeapRingsSaid : Prop := heapRingsRow.holds Try.pinned (OpenSpec.ofChange heapRingsSpec)

/-- ITS FALSE NEIGHBOUR: 'it returns false'. Refute it at one input. -/
def heapRingsWrong : ChangeSpec := { name := "heapRings", fn := fun _ => fun
  | [d1, d2] => { results := [.lit (.bool false)], args := [d1, d2] }
  | _ => none }
def HeapRingsWrongFalsely : Prop := heapRingsRow.holds Try.pinned (OpenSpec.ofChange heapRingsWrong)

/-- 'scriptorlaw18.HeapLists': WHATEVER THE INPUT: true; the input reads as it did. -/
def heapListsSpec : ChangeSpec := { name := "heapLists", fn := fun _ => fun
  | [d1, d2] => { results := [.lit (.bool true)], args := [d1, d2] }
  | _ => none }
def heapListsRow : OpenClaim := { program := "ytlbiapgikkjooaa", sum := "dedce0120d7757d0e7bd80bcde2530da9d2a98e4e7cfb7de3ecbe8ee948d6996", func := "scriptor/scriptorlaw18.HeapLists", spec := "heapLists", apart := false }
def HeapListsSaid : Prop := heapListsRow.holds Try.pinned (OpenSpec.ofChange heapListsSpec)

/-- ITS FALSE NEIGHBOUR: 'it returns false'. Refute it at one input. -/
def heapListsWrong : ChangeSpec := { name := "heapLists", fn := fun _ => fun
  | [d1, d2] => { results := [.lit (.bool false)], args := [d1, d2] }
  | _ => none }
def HeapListsWrongFalsely : Prop := heapListsRow.holds Try.pinned (OpenSpec.ofChange heapListsWrong)

/-- 'scriptorlaw18.HeapDeep': WHATEVER THE INPUT: true; the input reads as it did. -/
def heapDeepSpec : ChangeSpec := { name := "heapDeep", fn := fun _ => fun
  | [d1, d2, d3] => { results := [.lit (.bool true)], args := [d1, d2, d3] }
  | _ => none }
def heapDeepRow : OpenClaim := { program := "ytlbiapgikkjooaa", sum := "dedce0120d7757d0e7bd80bcde2530da9d2a98e4e7cfb7de3ecbe8ee948d6996", func := "scriptor/scriptorlaw18.HeapDeep", spec := "heapDeep", apart := false }
def HeapDeepSaid : Prop := heapDeepRow.holds Try.pinned (OpenSpec.ofChange heapDeepSpec)

/-- ITS FALSE NEIGHBOUR: 'it returns false'. Refute it at one input. -/
def heapDeepWrong : ChangeSpec := { name := "heapDeep", fn := fun _ => fun
  | [d1, d2, d3] => { results := [.lit (.bool false)], args := [d1, d2, d3] }
  | _ => none }
def HeapDeepWrongFalsely : Prop := heapDeepRow.holds Try.pinned (OpenSpec.ofChange heapDeepWrong)

/-- 'scriptorlaw18.HeapMoves': WHATEVER THE INPUT: true; the input reads as it did. -/
def heapMovesSpec : ChangeSpec := { name := "heapMoves", fn := fun _ => fun
  | [d1, d2] => { results := [.lit (.bool true)], args := [d1, d2] }
  | _ => none }
def heapMovesRow : OpenClaim := { program := "ytlbiapgikkjooaa", sum := "dedce0120d7757d0e7bd80bcde2530da9d2a98e4e7cfb7de3ecbe8ee948d6996", func := "scriptor/scriptorlaw18.HeapMoves", spec := "heapMoves", recurses := true, apart := false }
def HeapMovesSaid : Prop := heapMovesRow.holds Try.pinned (OpenSpec.ofChange heapMovesSpec)

/-- ITS FALSE NEIGHBOUR: 'it returns false'. Refute it at one input. -/
def heapMovesWrong : ChangeSpec := { name := "heapMoves", fn := fun _ => fun
  | [d1, d2] => { results := [.lit (.bool false)], args := [d1, d2] }
  | _ => none }
def HeapMovesWrongFalsely : Prop := heapMovesRow.holds Try.pinned (OpenSpec.ofChange heapMovesWrong)

/- THE SECOND FORM. 'bulk': how many values and letters a reading holds, each counted each time it is reached (what is shared counts as often as it is met; a slice's spare places count too). A statement '..UptoSaid' is the law's where the arguments, and the package variables that the reading takes, are together of bulk at most 1048576: NARROWER than '..Said'. Prove '..Said' where nothing that the law and all that it calls make is longer than what came in: it says more and counts as full. Else prove '..UptoSaid'. A law counts once. -/
mutual
def uptoBulk {H : Type} : DataW H → Nat
  | .lit (.string bytes) => bytes.length + 1
  | .lit _ => 1
  | .nil => 1
  | .ptr d => uptoBulk d + 1
  | .slice elems spare => uptoBulkAll elems + uptoBulkAll spare + 1
  | .agg parts => uptoBulkAll parts + 1
  | .iface _ d => uptoBulk d + 1
  | .map entries => uptoBulkEntries entries + 1
  | .held _ => 1
def uptoBulkAll {H : Type} : List (DataW H) → Nat
  | [] => 0
  | d :: r => uptoBulk d + uptoBulkAll r
def uptoBulkEntries {H : Type} : List (Lit × DataW H) → Nat
  | [] => 0
  | x :: r => uptoBulkEntry x + uptoBulkEntries r
def uptoBulkEntry {H : Type} : Lit × DataW H → Nat
  | (.string bytes, d) => bytes.length + uptoBulk d + 1
  | (_, d) => uptoBulk d + 1
 end
def uptoSmall : (H : Type) → List (DataW H) → Bool := fun _ ds => decide (uptoBulkAll ds ≤ 1048576)
def OpenSpec.upto (s : _root_.Go.ChangeSpec) : _root_.Go.OpenSpec := { _root_.Go.OpenSpec.ofChange s with cond := some uptoSmall }

/-- 'scriptorlaw18.HeapWords', WHERE WHAT IT READS IS OF BULK AT MOST 1048576: true; the input reads as it did. -/
def heapWordsUptoRow : OpenClaim := { program := "ytlbiapgikkjooaa", sum := "dedce0120d7757d0e7bd80bcde2530da9d2a98e4e7cfb7de3ecbe8ee948d6996", func := "scriptor/scriptorlaw18.HeapWords", spec := "heapWords", apart := false, narrowed := true }
def HeapWordsUptoSaid : Prop := heapWordsUptoRow.holds Try.pinned (OpenSpec.upto heapWordsSpec)

/-- 'scriptorlaw18.HeapFills', WHERE WHAT IT READS IS OF BULK AT MOST 1048576: true; the input reads as it did. -/
def heapFillsUptoRow : OpenClaim := { program := "ytlbiapgikkjooaa", sum := "dedce0120d7757d0e7bd80bcde2530da9d2a98e4e7cfb7de3ecbe8ee948d6996", func := "scriptor/scriptorlaw18.HeapFills", spec := "heapFills", apart := false, narrowed := true }
def HeapFillsUptoSaid : Prop := heapFillsUptoRow.holds Try.pinned (OpenSpec.upto heapFillsSpec)

/-- 'scriptorlaw18.HeapRings', WHERE WHAT IT READS IS OF BULK AT MOST 1048576: true; the input reads as it did. -/
def heapRingsUptoRow : OpenClaim := { program := "ytlbiapgikkjooaa", sum := "dedce0120d7757d0e7bd80bcde2530da9d2a98e4e7cfb7de3ecbe8ee948d6996", func := "scriptor/scriptorlaw18.HeapRings", spec := "heapRings", apart := false, narrowed := true }
def HeapRingsUptoSaid : Prop := heapRingsUptoRow.holds Try.pinned (OpenSpec.upto heapRingsSpec)

/-- 'scriptorlaw18.HeapLists', WHERE WHAT IT READS IS OF BULK AT MOST 1048576: true; the input reads as it did. -/
def heapListsUptoRow : OpenClaim := { program := "ytlbiapgikkjooaa", sum := "dedce0120d7757d0e7bd80bcde2530da9d2a98e4e7cfb7de3ecbe8ee948d6996", func := "scriptor/scriptorlaw18.HeapLists", spec := "heapLists", apart := false, narrowed := true }
def HeapListsUptoSaid : Prop := heapListsUptoRow.holds Try.pinned (OpenSpec.upto heapListsSpec)

/-- 'scriptorlaw18.HeapDeep', WHERE WHAT IT READS IS OF BULK AT MOST 1048576: true; the input reads as it did. -/
def heapDeepUptoRow : OpenClaim := { program := "ytlbiapgikkjooaa", sum := "dedce0120d7757d0e7bd80bcde2530da9d2a98e4e7cfb7de3ecbe8ee948d6996", func := "scriptor/scriptorlaw18.HeapDeep", spec := "heapDeep", apart := false, narrowed := true }
def HeapDeepUptoSaid : Prop := heapDeepUptoRow.holds Try.pinned (OpenSpec.upto heapDeepSpec)

/-- 'scriptorlaw18.HeapMoves', WHERE WHAT IT READS IS OF BULK AT MOST 1048576: true; the input reads as it did. -/
def heapMovesUptoRow : OpenClaim := { program := "ytlbiapgikkjooaa", sum := "dedce0120d7757d0e7bd80bcde2530da9d2a98e4e7cfb7de3ecbe8ee948d6996", func := "scriptor/scriptorlaw18.HeapMoves", spec := "heapMoves", recurses := true, apart := false, narrowed := true }
def HeapMovesUptoSaid : Prop := heapMovesUptoRow.holds Try.pinned (OpenSpec.upto heapMovesSpec)

end Rows
end Go.Proofs.Ytlbiapgikkjooaa
