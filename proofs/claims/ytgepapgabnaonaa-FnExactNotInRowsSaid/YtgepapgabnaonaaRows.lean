/-
  No cell of these rows narrows 'for every input' (looked for: loops, veiled, ifaces, maps, wideKeys, modest, calm, conditions, laid).
  DERIVED. THE GIVEN ROWS OF THIS SEAT. 12 by the template 'for every input the law returns true; each argument reads behind the call as it read before'; 0 by the template 'total and deterministic' (their statements: YtgepapgabnaonaaTotals.lean).
  GIVEN WITH THE SEED: the statements are not yours to turn. If you find one false, say at which input.
  Laid BY PROGRAM, IN A SANDBOX (cutbox-rows.mjs): the forced cells as the released guide's own fill.sh prints them over the translation 6db653d025262902… (all of the seat's roots in one cut). By AI agents, Wed Nov 11 2026. No macro, syntax, notation, axiom, sorry.
-/
import Derived.Test.YtgepapgabnaonaaChecked
import GoSem.Claim
import GoSem.ClaimJoined
import GoSem.ClaimMapViews
import Derived.JoinedTies
import Derived.KernelRfl
namespace Go.Proofs.Ytgepapgabnaonaa
/- THE CELL 'sum', in the pinned program and in every row, IS THE sha256 OF THE DUMP (.gsa) THAT YtgepapgabnaonaaProg.lean LOADS. Nothing in Lean hashes anything: it is a label: what it is worth is what the hold of that sum in a sandbox is worth. -/
noncomputable def Try.pinned : Pinned := { name := "ytgepapgabnaonaa", sum := "6db653d02526290269447a14e9181627675fe5f9340a966f520d03fa4cdd0459", checked := Try.checked }
namespace Rows
def none {H : Type} : Left H := { results := [], args := [] }

/-- 'laws.FnExprMoved': WHATEVER THE INPUT: true; the input reads as it did. -/
def fnExprMovedSpec : ChangeSpec := { name := "fnExprMoved", fn := fun _ => fun
  | [d] => { results := [.lit (.bool true)], args := [d] }
  | _ => none }
def fnExprMovedRow : OpenClaim := { program := "ytgepapgabnaonaa", sum := "6db653d02526290269447a14e9181627675fe5f9340a966f520d03fa4cdd0459", func := "loop.example/tablehouse/laws.FnExprMoved", spec := "fnExprMoved", unfollowed := true, recurses := true, apart := false }
def FnExprMovedSaid : Prop := fnExprMovedRow.holds Try.pinned (OpenSpec.ofChange fnExprMovedSpec)

/-- ITS FALSE NEIGHBOUR: 'it returns false'. Refute it at one input. -/
def fnExprMovedWrong : ChangeSpec := { name := "fnExprMoved", fn := fun _ => fun
  | [d] => { results := [.lit (.bool false)], args := [d] }
  | _ => none }
def FnExprMovedWrongFalsely : Prop := fnExprMovedRow.holds Try.pinned (OpenSpec.ofChange fnExprMovedWrong)

/-- 'laws.FnExactExprMoved': WHATEVER THE INPUT: true; the input reads as it did. -/
def fnExactExprMovedSpec : ChangeSpec := { name := "fnExactExprMoved", fn := fun _ => fun
  | [d1, d2, d3] => { results := [.lit (.bool true)], args := [d1, d2, d3] }
  | _ => none }
def fnExactExprMovedRow : OpenClaim := { program := "ytgepapgabnaonaa", sum := "6db653d02526290269447a14e9181627675fe5f9340a966f520d03fa4cdd0459", func := "loop.example/tablehouse/laws.FnExactExprMoved", spec := "fnExactExprMoved", unfollowed := true, recurses := true, apart := false }
def FnExactExprMovedSaid : Prop := fnExactExprMovedRow.holds Try.pinned (OpenSpec.ofChange fnExactExprMovedSpec)

/-- ITS FALSE NEIGHBOUR: 'it returns false'. Refute it at one input. -/
def fnExactExprMovedWrong : ChangeSpec := { name := "fnExactExprMoved", fn := fun _ => fun
  | [d1, d2, d3] => { results := [.lit (.bool false)], args := [d1, d2, d3] }
  | _ => none }
def FnExactExprMovedWrongFalsely : Prop := fnExactExprMovedRow.holds Try.pinned (OpenSpec.ofChange fnExactExprMovedWrong)

/-- 'laws.FnGuardsOk': WHATEVER THE INPUT: true; the input reads as it did. -/
def fnGuardsOkSpec : ChangeSpec := { name := "fnGuardsOk", fn := fun _ => fun
  | [d] => { results := [.lit (.bool true)], args := [d] }
  | _ => none }
def fnGuardsOkRow : OpenClaim := { program := "ytgepapgabnaonaa", sum := "6db653d02526290269447a14e9181627675fe5f9340a966f520d03fa4cdd0459", func := "loop.example/tablehouse/laws.FnGuardsOk", spec := "fnGuardsOk", unfollowed := true, recurses := true, apart := false }
def FnGuardsOkSaid : Prop := fnGuardsOkRow.holds Try.pinned (OpenSpec.ofChange fnGuardsOkSpec)

/-- ITS FALSE NEIGHBOUR: 'it returns false'. Refute it at one input. -/
def fnGuardsOkWrong : ChangeSpec := { name := "fnGuardsOk", fn := fun _ => fun
  | [d] => { results := [.lit (.bool false)], args := [d] }
  | _ => none }
def FnGuardsOkWrongFalsely : Prop := fnGuardsOkRow.holds Try.pinned (OpenSpec.ofChange fnGuardsOkWrong)

/-- 'laws.FnRejects': WHATEVER THE INPUT: true; the input reads as it did. -/
def fnRejectsSpec : ChangeSpec := { name := "fnRejects", fn := fun _ => fun
  | [d] => { results := [.lit (.bool true)], args := [d] }
  | _ => none }
def fnRejectsRow : OpenClaim := { program := "ytgepapgabnaonaa", sum := "6db653d02526290269447a14e9181627675fe5f9340a966f520d03fa4cdd0459", func := "loop.example/tablehouse/laws.FnRejects", spec := "fnRejects", unfollowed := true, recurses := true, apart := false }
def FnRejectsSaid : Prop := fnRejectsRow.holds Try.pinned (OpenSpec.ofChange fnRejectsSpec)

/-- ITS FALSE NEIGHBOUR: 'it returns false'. Refute it at one input. -/
def fnRejectsWrong : ChangeSpec := { name := "fnRejects", fn := fun _ => fun
  | [d] => { results := [.lit (.bool false)], args := [d] }
  | _ => none }
def FnRejectsWrongFalsely : Prop := fnRejectsRow.holds Try.pinned (OpenSpec.ofChange fnRejectsWrong)

/-- 'laws.FnWholeAbsorb': WHATEVER THE INPUT: true; the input reads as it did. -/
def fnWholeAbsorbSpec : ChangeSpec := { name := "fnWholeAbsorb", fn := fun _ => fun
  | [d] => { results := [.lit (.bool true)], args := [d] }
  | _ => none }
def fnWholeAbsorbRow : OpenClaim := { program := "ytgepapgabnaonaa", sum := "6db653d02526290269447a14e9181627675fe5f9340a966f520d03fa4cdd0459", func := "loop.example/tablehouse/laws.FnWholeAbsorb", spec := "fnWholeAbsorb", unfollowed := true, recurses := true, apart := false }
def FnWholeAbsorbSaid : Prop := fnWholeAbsorbRow.holds Try.pinned (OpenSpec.ofChange fnWholeAbsorbSpec)

/-- ITS FALSE NEIGHBOUR: 'it returns false'. Refute it at one input. -/
def fnWholeAbsorbWrong : ChangeSpec := { name := "fnWholeAbsorb", fn := fun _ => fun
  | [d] => { results := [.lit (.bool false)], args := [d] }
  | _ => none }
def FnWholeAbsorbWrongFalsely : Prop := fnWholeAbsorbRow.holds Try.pinned (OpenSpec.ofChange fnWholeAbsorbWrong)

/-- 'laws.FnWholeLess': WHATEVER THE INPUT: true; the input reads as it did. -/
def fnWholeLessSpec : ChangeSpec := { name := "fnWholeLess", fn := fun _ => fun
  | [d] => { results := [.lit (.bool true)], args := [d] }
  | _ => none }
def fnWholeLessRow : OpenClaim := { program := "ytgepapgabnaonaa", sum := "6db653d02526290269447a14e9181627675fe5f9340a966f520d03fa4cdd0459", func := "loop.example/tablehouse/laws.FnWholeLess", spec := "fnWholeLess", unfollowed := true, recurses := true, apart := false }
def FnWholeLessSaid : Prop := fnWholeLessRow.holds Try.pinned (OpenSpec.ofChange fnWholeLessSpec)

/-- ITS FALSE NEIGHBOUR: 'it returns false'. Refute it at one input. -/
def fnWholeLessWrong : ChangeSpec := { name := "fnWholeLess", fn := fun _ => fun
  | [d] => { results := [.lit (.bool false)], args := [d] }
  | _ => none }
def FnWholeLessWrongFalsely : Prop := fnWholeLessRow.holds Try.pinned (OpenSpec.ofChange fnWholeLessWrong)

/-- 'laws.FnWholeMorgan': WHATEVER THE INPUT: true; the input reads as it did. -/
def fnWholeMorganSpec : ChangeSpec := { name := "fnWholeMorgan", fn := fun _ => fun
  | [d] => { results := [.lit (.bool true)], args := [d] }
  | _ => none }
def fnWholeMorganRow : OpenClaim := { program := "ytgepapgabnaonaa", sum := "6db653d02526290269447a14e9181627675fe5f9340a966f520d03fa4cdd0459", func := "loop.example/tablehouse/laws.FnWholeMorgan", spec := "fnWholeMorgan", unfollowed := true, recurses := true, apart := false }
def FnWholeMorganSaid : Prop := fnWholeMorganRow.holds Try.pinned (OpenSpec.ofChange fnWholeMorganSpec)

/-- ITS FALSE NEIGHBOUR: 'it returns false'. Refute it at one input. -/
def fnWholeMorganWrong : ChangeSpec := { name := "fnWholeMorgan", fn := fun _ => fun
  | [d] => { results := [.lit (.bool false)], args := [d] }
  | _ => none }
def FnWholeMorganWrongFalsely : Prop := fnWholeMorganRow.holds Try.pinned (OpenSpec.ofChange fnWholeMorganWrong)

/-- 'laws.FnWholeTurned': WHATEVER THE INPUT: true; the input reads as it did. -/
def fnWholeTurnedSpec : ChangeSpec := { name := "fnWholeTurned", fn := fun _ => fun
  | [d] => { results := [.lit (.bool true)], args := [d] }
  | _ => none }
def fnWholeTurnedRow : OpenClaim := { program := "ytgepapgabnaonaa", sum := "6db653d02526290269447a14e9181627675fe5f9340a966f520d03fa4cdd0459", func := "loop.example/tablehouse/laws.FnWholeTurned", spec := "fnWholeTurned", unfollowed := true, recurses := true, apart := false }
def FnWholeTurnedSaid : Prop := fnWholeTurnedRow.holds Try.pinned (OpenSpec.ofChange fnWholeTurnedSpec)

/-- ITS FALSE NEIGHBOUR: 'it returns false'. Refute it at one input. -/
def fnWholeTurnedWrong : ChangeSpec := { name := "fnWholeTurned", fn := fun _ => fun
  | [d] => { results := [.lit (.bool false)], args := [d] }
  | _ => none }
def FnWholeTurnedWrongFalsely : Prop := fnWholeTurnedRow.holds Try.pinned (OpenSpec.ofChange fnWholeTurnedWrong)

/-- 'laws.FnNotInRows': WHATEVER THE INPUT: true; the input reads as it did. -/
def fnNotInRowsSpec : ChangeSpec := { name := "fnNotInRows", fn := fun _ => fun
  | [d] => { results := [.lit (.bool true)], args := [d] }
  | _ => none }
def fnNotInRowsRow : OpenClaim := { program := "ytgepapgabnaonaa", sum := "6db653d02526290269447a14e9181627675fe5f9340a966f520d03fa4cdd0459", func := "loop.example/tablehouse/laws.FnNotInRows", spec := "fnNotInRows", unfollowed := true, recurses := true, apart := false }
def FnNotInRowsSaid : Prop := fnNotInRowsRow.holds Try.pinned (OpenSpec.ofChange fnNotInRowsSpec)

/-- ITS FALSE NEIGHBOUR: 'it returns false'. Refute it at one input. -/
def fnNotInRowsWrong : ChangeSpec := { name := "fnNotInRows", fn := fun _ => fun
  | [d] => { results := [.lit (.bool false)], args := [d] }
  | _ => none }
def FnNotInRowsWrongFalsely : Prop := fnNotInRowsRow.holds Try.pinned (OpenSpec.ofChange fnNotInRowsWrong)

/-- 'laws.FnExactInRows': WHATEVER THE INPUT: true; the input reads as it did. -/
def fnExactInRowsSpec : ChangeSpec := { name := "fnExactInRows", fn := fun _ => fun
  | [d1, d2, d3, d4, d5, d6] => { results := [.lit (.bool true)], args := [d1, d2, d3, d4, d5, d6] }
  | _ => none }
def fnExactInRowsRow : OpenClaim := { program := "ytgepapgabnaonaa", sum := "6db653d02526290269447a14e9181627675fe5f9340a966f520d03fa4cdd0459", func := "loop.example/tablehouse/laws.FnExactInRows", spec := "fnExactInRows", unfollowed := true, recurses := true, apart := false }
def FnExactInRowsSaid : Prop := fnExactInRowsRow.holds Try.pinned (OpenSpec.ofChange fnExactInRowsSpec)

/-- ITS FALSE NEIGHBOUR: 'it returns false'. Refute it at one input. -/
def fnExactInRowsWrong : ChangeSpec := { name := "fnExactInRows", fn := fun _ => fun
  | [d1, d2, d3, d4, d5, d6] => { results := [.lit (.bool false)], args := [d1, d2, d3, d4, d5, d6] }
  | _ => none }
def FnExactInRowsWrongFalsely : Prop := fnExactInRowsRow.holds Try.pinned (OpenSpec.ofChange fnExactInRowsWrong)

/-- 'laws.FnExactNotInRows': WHATEVER THE INPUT: true; the input reads as it did. -/
def fnExactNotInRowsSpec : ChangeSpec := { name := "fnExactNotInRows", fn := fun _ => fun
  | [d1, d2, d3, d4, d5, d6] => { results := [.lit (.bool true)], args := [d1, d2, d3, d4, d5, d6] }
  | _ => none }
def fnExactNotInRowsRow : OpenClaim := { program := "ytgepapgabnaonaa", sum := "6db653d02526290269447a14e9181627675fe5f9340a966f520d03fa4cdd0459", func := "loop.example/tablehouse/laws.FnExactNotInRows", spec := "fnExactNotInRows", unfollowed := true, recurses := true, apart := false }
def FnExactNotInRowsSaid : Prop := fnExactNotInRowsRow.holds Try.pinned (OpenSpec.ofChange fnExactNotInRowsSpec)

/-- ITS FALSE NEIGHBOUR: 'it returns false'. Refute it at one input. -/
def fnExactNotInRowsWrong : ChangeSpec := { name := "fnExactNotInRows", fn := fun _ => fun
  | [d1, d2, d3, d4, d5, d6] => { results := [.lit (.bool false)], args := [d1, d2, d3, d4, d5, d6] }
  | _ => none }
def FnExactNotInRowsWrongFalsely : Prop := fnExactNotInRowsRow.holds Try.pinned (OpenSpec.ofChange fnExactNotInRowsWrong)

/-- 'laws.FnWholeIn': WHATEVER THE INPUT: true; the input reads as it did. -/
def fnWholeInSpec : ChangeSpec := { name := "fnWholeIn", fn := fun _ => fun
  | [d] => { results := [.lit (.bool true)], args := [d] }
  | _ => none }
def fnWholeInRow : OpenClaim := { program := "ytgepapgabnaonaa", sum := "6db653d02526290269447a14e9181627675fe5f9340a966f520d03fa4cdd0459", func := "loop.example/tablehouse/laws.FnWholeIn", spec := "fnWholeIn", unfollowed := true, recurses := true, apart := false }
def FnWholeInSaid : Prop := fnWholeInRow.holds Try.pinned (OpenSpec.ofChange fnWholeInSpec)

/-- ITS FALSE NEIGHBOUR: 'it returns false'. Refute it at one input. -/
def fnWholeInWrong : ChangeSpec := { name := "fnWholeIn", fn := fun _ => fun
  | [d] => { results := [.lit (.bool false)], args := [d] }
  | _ => none }
def FnWholeInWrongFalsely : Prop := fnWholeInRow.holds Try.pinned (OpenSpec.ofChange fnWholeInWrong)

/- THE SECOND FORM. 'bulk': how many values and letters a reading holds, each counted each time it is reached (what is shared counts as often as it is met; a slice's spare places count too). A statement '..UptoSaid' is the law's where the arguments, and the package variables that the reading takes, are together of bulk at most 1048576: NARROWER than '..Said'. Prove '..Said' where nothing that the law and all that it calls make is longer than what came in: it says more and counts as full. Else prove '..UptoSaid'. A law counts once. -/
mutual
def uptoBulk {H : Type} : DataW H → Nat
  | .lit (.string bytes) => bytes.length + 1
  | .lit _ => 1
  | .nil => 1
  | .ptr d => uptoBulk d + 1
  | .slice elems spare => uptoBulkAll elems + uptoBulkAll spare + 1
  | .agg parts => uptoBulkAll parts + 1
  | .iface _ d => uptoBulk d + 1
  | .map entries => uptoBulkEntries entries + 1
  | .held _ => 1
def uptoBulkAll {H : Type} : List (DataW H) → Nat
  | [] => 0
  | d :: r => uptoBulk d + uptoBulkAll r
def uptoBulkEntries {H : Type} : List (Lit × DataW H) → Nat
  | [] => 0
  | x :: r => uptoBulkEntry x + uptoBulkEntries r
def uptoBulkEntry {H : Type} : Lit × DataW H → Nat
  | (.string bytes, d) => bytes.length + uptoBulk d + 1
  | (_, d) => uptoBulk d + 1
 end
def uptoSmall : (H : Type) → List (DataW H) → Bool := fun _ ds => decide (uptoBulkAll ds ≤ 1048576)
def OpenSpec.upto (s : _root_.Go.ChangeSpec) : _root_.Go.OpenSpec := { _root_.Go.OpenSpec.ofChange s with cond := some uptoSmall }

/-- 'laws.FnExprMoved', WHERE WHAT IT READS IS OF BULK AT MOST 1048576: true; the input reads as it did. -/
def fnExprMovedUptoRow : OpenClaim := { program := "ytgepapgabnaonaa", sum := "6db653d02526290269447a14e9181627675fe5f9340a966f520d03fa4cdd0459", func := "loop.example/tablehouse/laws.FnExprMoved", spec := "fnExprMoved", unfollowed := true, recurses := true, apart := false, narrowed := true }
def FnExprMovedUptoSaid : Prop := fnExprMovedUptoRow.holds Try.pinned (OpenSpec.upto fnExprMovedSpec)

/-- 'laws.FnExactExprMoved', WHERE WHAT IT READS IS OF BULK AT MOST 1048576: true; the input reads as it did. -/
def fnExactExprMovedUptoRow : OpenClaim := { program := "ytgepapgabnaonaa", sum := "6db653d02526290269447a14e9181627675fe5f9340a966f520d03fa4cdd0459", func := "loop.example/tablehouse/laws.FnExactExprMoved", spec := "fnExactExprMoved", unfollowed := true, recurses := true, apart := false, narrowed := true }
def FnExactExprMovedUptoSaid : Prop := fnExactExprMovedUptoRow.holds Try.pinned (OpenSpec.upto fnExactExprMovedSpec)

/-- 'laws.FnGuardsOk', WHERE WHAT IT READS IS OF BULK AT MOST 1048576: true; the input reads as it did. -/
def fnGuardsOkUptoRow : OpenClaim := { program := "ytgepapgabnaonaa", sum := "6db653d02526290269447a14e9181627675fe5f9340a966f520d03fa4cdd0459", func := "loop.example/tablehouse/laws.FnGuardsOk", spec := "fnGuardsOk", unfollowed := true, recurses := true, apart := false, narrowed := true }
def FnGuardsOkUptoSaid : Prop := fnGuardsOkUptoRow.holds Try.pinned (OpenSpec.upto fnGuardsOkSpec)

/-- 'laws.FnRejects', WHERE WHAT IT READS IS OF BULK AT MOST 1048576: true; the input reads as it did. -/
def fnRejectsUptoRow : OpenClaim := { program := "ytgepapgabnaonaa", sum := "6db653d02526290269447a14e9181627675fe5f9340a966f520d03fa4cdd0459", func := "loop.example/tablehouse/laws.FnRejects", spec := "fnRejects", unfollowed := true, recurses := true, apart := false, narrowed := true }
def FnRejectsUptoSaid : Prop := fnRejectsUptoRow.holds Try.pinned (OpenSpec.upto fnRejectsSpec)

/-- 'laws.FnWholeAbsorb', WHERE WHAT IT READS IS OF BULK AT MOST 1048576: true; the input reads as it did. -/
def fnWholeAbsorbUptoRow : OpenClaim := { program := "ytgepapgabnaonaa", sum := "6db653d02526290269447a14e9181627675fe5f9340a966f520d03fa4cdd0459", func := "loop.example/tablehouse/laws.FnWholeAbsorb", spec := "fnWholeAbsorb", unfollowed := true, recurses := true, apart := false, narrowed := true }
def FnWholeAbsorbUptoSaid : Prop := fnWholeAbsorbUptoRow.holds Try.pinned (OpenSpec.upto fnWholeAbsorbSpec)

/-- 'laws.FnWholeLess', WHERE WHAT IT READS IS OF BULK AT MOST 1048576: true; the input reads as it did. -/
def fnWholeLessUptoRow : OpenClaim := { program := "ytgepapgabnaonaa", sum := "6db653d02526290269447a14e9181627675fe5f9340a966f520d03fa4cdd0459", func := "loop.example/tablehouse/laws.FnWholeLess", spec := "fnWholeLess", unfollowed := true, recurses := true, apart := false, narrowed := true }
def FnWholeLessUptoSaid : Prop := fnWholeLessUptoRow.holds Try.pinned (OpenSpec.upto fnWholeLessSpec)

/-- 'laws.FnWholeMorgan', WHERE WHAT IT READS IS OF BULK AT MOST 1048576: true; the input reads as it did. -/
def fnWholeMorganUptoRow : OpenClaim := { program := "ytgepapgabnaonaa", sum := "6db653d02526290269447a14e9181627675fe5f9340a966f520d03fa4cdd0459", func := "loop.example/tablehouse/laws.FnWholeMorgan", spec := "fnWholeMorgan", unfollowed := true, recurses := true, apart := false, narrowed := true }
def FnWholeMorganUptoSaid : Prop := fnWholeMorganUptoRow.holds Try.pinned (OpenSpec.upto fnWholeMorganSpec)

/-- 'laws.FnWholeTurned', WHERE WHAT IT READS IS OF BULK AT MOST 1048576: true; the input reads as it did. -/
def fnWholeTurnedUptoRow : OpenClaim := { program := "ytgepapgabnaonaa", sum := "6db653d02526290269447a14e9181627675fe5f9340a966f520d03fa4cdd0459", func := "loop.example/tablehouse/laws.FnWholeTurned", spec := "fnWholeTurned", unfollowed := true, recurses := true, apart := false, narrowed := true }
def FnWholeTurnedUptoSaid : Prop := fnWholeTurnedUptoRow.holds Try.pinned (OpenSpec.upto fnWholeTurnedSpec)

/-- 'laws.FnNotInRows', WHERE WHAT IT READS IS OF BULK AT MOST 1048576: true; the input reads as it did. -/
def fnNotInRowsUptoRow : OpenClaim := { program := "ytgepapgabnaonaa", sum := "6db653d02526290269447a14e9181627675fe5f9340a966f520d03fa4cdd0459", func := "loop.example/tablehouse/laws.FnNotInRows", spec := "fnNotInRows", unfollowed := true, recurses := true, apart := false, narrowed := true }
def FnNotInRowsUptoSaid : Prop := fnNotInRowsUptoRow.holds Try.pinned (OpenSpec.upto fnNotInRowsSpec)

/-- 'laws.FnExactInRows', WHERE WHAT IT READS IS OF BULK AT MOST 1048576: true; the input reads as it did. -/
def fnExactInRowsUptoRow : OpenClaim := { program := "ytgepapgabnaonaa", sum := "6db653d02526290269447a14e9181627675fe5f9340a966f520d03fa4cdd0459", func := "loop.example/tablehouse/laws.FnExactInRows", spec := "fnExactInRows", unfollowed := true, recurses := true, apart := false, narrowed := true }
def FnExactInRowsUptoSaid : Prop := fnExactInRowsUptoRow.holds Try.pinned (OpenSpec.upto fnExactInRowsSpec)

/-- 'laws.FnExactNotInRows', WHERE WHAT IT READS IS OF BULK AT MOST 1048576: true; the input reads as it did. -/
def fnExactNotInRowsUptoRow : OpenClaim := { program := "ytgepapgabnaonaa", sum := "6db653d02526290269447a14e9181627675fe5f9340a966f520d03fa4cdd0459", func := "loop.example/tablehouse/laws.FnExactNotInRows", spec := "fnExactNotInRows", unfollowed := true, recurses := true, apart := false, narrowed := true }
def FnExactNotInRowsUptoSaid : Prop := fnExactNotInRowsUptoRow.holds Try.pinned (OpenSpec.upto fnExactNotInRowsSpec)

/-- 'laws.FnWholeIn', WHERE WHAT IT READS IS OF BULK AT MOST 1048576: true; the input reads as it did. -/
def fnWholeInUptoRow : OpenClaim := { program := "ytgepapgabnaonaa", sum := "6db653d02526290269447a14e9181627675fe5f9340a966f520d03fa4cdd0459", func := "loop.example/tablehouse/laws.FnWholeIn", spec := "fnWholeIn", unfollowed := true, recurses := true, apart := false, narrowed := true }
def FnWholeInUptoSaid : Prop := fnWholeInUptoRow.holds Try.pinned (OpenSpec.upto fnWholeInSpec)

end Rows
end Go.Proofs.Ytgepapgabnaonaa
