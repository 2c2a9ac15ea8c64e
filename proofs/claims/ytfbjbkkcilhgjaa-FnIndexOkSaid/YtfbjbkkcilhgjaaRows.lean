/-
  No cell of these rows narrows 'for every input' (looked for: loops, veiled, ifaces, maps, wideKeys, modest, calm, conditions, laid).
  DERIVED. THE GIVEN ROWS OF THIS SEAT. 8 by the template 'for every input the law returns true; each argument reads behind the call as it read before'; 0 by the template 'total and deterministic' (their statements: YtfbjbkkcilhgjaaTotals.lean).
  GIVEN WITH THE SEED: the statements are not yours to turn. If you find one false, say at which input.
  Laid BY PROGRAM, IN A SANDBOX (cutbox-rows.mjs): the forced cells as the released guide's own fill.sh prints them over the translation 116ff954fb8d14c0… (all of the seat's roots in one cut). By AI agents, Wed Nov 11 2026. No macro, syntax, notation, axiom, sorry.
-/
import Derived.Test.YtfbjbkkcilhgjaaChecked
import GoSem.Claim
import GoSem.ClaimJoined
import GoSem.ClaimMapViews
import Derived.JoinedTies
import Derived.KernelRfl
namespace Go.Proofs.Ytfbjbkkcilhgjaa
/- THE CELL 'sum', in the pinned program and in every row, IS THE sha256 OF THE DUMP (.gsa) THAT YtfbjbkkcilhgjaaProg.lean LOADS. Nothing in Lean hashes anything: it is a label: what it is worth is what the hold of that sum in a sandbox is worth. -/
noncomputable def Try.pinned : Pinned := { name := "ytfbjbkkcilhgjaa", sum := "116ff954fb8d14c07409cfc286ef26062b732d331a54b2b79767062ccfa0133d", checked := Try.checked }
namespace Rows
def none {H : Type} : Left H := { results := [], args := [] }

/-- 'laws.FnTableAt': WHATEVER THE INPUT: true; the input reads as it did. -/
def fnTableAtSpec : ChangeSpec := { name := "fnTableAt", fn := fun _ => fun
  | [d] => { results := [.lit (.bool true)], args := [d] }
  | _ => none }
def fnTableAtRow : OpenClaim := { program := "ytfbjbkkcilhgjaa", sum := "116ff954fb8d14c07409cfc286ef26062b732d331a54b2b79767062ccfa0133d", func := "loop.example/tablehouse/laws.FnTableAt", spec := "fnTableAt", unfollowed := true, recurses := true, apart := false }
def FnTableAtSaid : Prop := fnTableAtRow.holds Try.pinned (OpenSpec.ofChange fnTableAtSpec)

/-- ITS FALSE NEIGHBOUR: 'it returns false'. Refute it at one input. -/
def fnTableAtWrong : ChangeSpec := { name := "fnTableAt", fn := fun _ => fun
  | [d] => { results := [.lit (.bool false)], args := [d] }
  | _ => none }
def FnTableAtWrongFalsely : Prop := fnTableAtRow.holds Try.pinned (OpenSpec.ofChange fnTableAtWrong)

/-- 'laws.FnSweptAt': WHATEVER THE INPUT: true; the input reads as it did. -/
def fnSweptAtSpec : ChangeSpec := { name := "fnSweptAt", fn := fun _ => fun
  | [d] => { results := [.lit (.bool true)], args := [d] }
  | _ => none }
def fnSweptAtRow : OpenClaim := { program := "ytfbjbkkcilhgjaa", sum := "116ff954fb8d14c07409cfc286ef26062b732d331a54b2b79767062ccfa0133d", func := "loop.example/tablehouse/laws.FnSweptAt", spec := "fnSweptAt", unfollowed := true, recurses := true, apart := false }
def FnSweptAtSaid : Prop := fnSweptAtRow.holds Try.pinned (OpenSpec.ofChange fnSweptAtSpec)

/-- ITS FALSE NEIGHBOUR: 'it returns false'. Refute it at one input. -/
def fnSweptAtWrong : ChangeSpec := { name := "fnSweptAt", fn := fun _ => fun
  | [d] => { results := [.lit (.bool false)], args := [d] }
  | _ => none }
def FnSweptAtWrongFalsely : Prop := fnSweptAtRow.holds Try.pinned (OpenSpec.ofChange fnSweptAtWrong)

/-- 'laws.FnExactTalliesRows': WHATEVER THE INPUT: true; the input reads as it did. -/
def fnExactTalliesRowsSpec : ChangeSpec := { name := "fnExactTalliesRows", fn := fun _ => fun
  | [d] => { results := [.lit (.bool true)], args := [d] }
  | _ => none }
def fnExactTalliesRowsRow : OpenClaim := { program := "ytfbjbkkcilhgjaa", sum := "116ff954fb8d14c07409cfc286ef26062b732d331a54b2b79767062ccfa0133d", func := "loop.example/tablehouse/laws.FnExactTalliesRows", spec := "fnExactTalliesRows", unfollowed := true, recurses := true, apart := false }
def FnExactTalliesRowsSaid : Prop := fnExactTalliesRowsRow.holds Try.pinned (OpenSpec.ofChange fnExactTalliesRowsSpec)

/-- ITS FALSE NEIGHBOUR: 'it returns false'. Refute it at one input. -/
def fnExactTalliesRowsWrong : ChangeSpec := { name := "fnExactTalliesRows", fn := fun _ => fun
  | [d] => { results := [.lit (.bool false)], args := [d] }
  | _ => none }
def FnExactTalliesRowsWrongFalsely : Prop := fnExactTalliesRowsRow.holds Try.pinned (OpenSpec.ofChange fnExactTalliesRowsWrong)

/-- 'laws.FnTalliesRows': WHATEVER THE INPUT: true; the input reads as it did. -/
def fnTalliesRowsSpec : ChangeSpec := { name := "fnTalliesRows", fn := fun _ => fun
  | [d] => { results := [.lit (.bool true)], args := [d] }
  | _ => none }
def fnTalliesRowsRow : OpenClaim := { program := "ytfbjbkkcilhgjaa", sum := "116ff954fb8d14c07409cfc286ef26062b732d331a54b2b79767062ccfa0133d", func := "loop.example/tablehouse/laws.FnTalliesRows", spec := "fnTalliesRows", unfollowed := true, recurses := true, apart := false }
def FnTalliesRowsSaid : Prop := fnTalliesRowsRow.holds Try.pinned (OpenSpec.ofChange fnTalliesRowsSpec)

/-- ITS FALSE NEIGHBOUR: 'it returns false'. Refute it at one input. -/
def fnTalliesRowsWrong : ChangeSpec := { name := "fnTalliesRows", fn := fun _ => fun
  | [d] => { results := [.lit (.bool false)], args := [d] }
  | _ => none }
def FnTalliesRowsWrongFalsely : Prop := fnTalliesRowsRow.holds Try.pinned (OpenSpec.ofChange fnTalliesRowsWrong)

/-- 'laws.FnIndexOk': WHATEVER THE INPUT: true; the input reads as it did. -/
def fnIndexOkSpec : ChangeSpec := { name := "fnIndexOk", fn := fun _ => fun
  | [d] => { results := [.lit (.bool true)], args := [d] }
  | _ => none }
def fnIndexOkRow : OpenClaim := { program := "ytfbjbkkcilhgjaa", sum := "116ff954fb8d14c07409cfc286ef26062b732d331a54b2b79767062ccfa0133d", func := "loop.example/tablehouse/laws.FnIndexOk", spec := "fnIndexOk", unfollowed := true, recurses := true, apart := false }
def FnIndexOkSaid : Prop := fnIndexOkRow.holds Try.pinned (OpenSpec.ofChange fnIndexOkSpec)

/-- ITS FALSE NEIGHBOUR: 'it returns false'. Refute it at one input. -/
def fnIndexOkWrong : ChangeSpec := { name := "fnIndexOk", fn := fun _ => fun
  | [d] => { results := [.lit (.bool false)], args := [d] }
  | _ => none }
def FnIndexOkWrongFalsely : Prop := fnIndexOkRow.holds Try.pinned (OpenSpec.ofChange fnIndexOkWrong)

/-- 'laws.FnIndexFind': WHATEVER THE INPUT: true; the input reads as it did. -/
def fnIndexFindSpec : ChangeSpec := { name := "fnIndexFind", fn := fun _ => fun
  | [d] => { results := [.lit (.bool true)], args := [d] }
  | _ => none }
def fnIndexFindRow : OpenClaim := { program := "ytfbjbkkcilhgjaa", sum := "116ff954fb8d14c07409cfc286ef26062b732d331a54b2b79767062ccfa0133d", func := "loop.example/tablehouse/laws.FnIndexFind", spec := "fnIndexFind", unfollowed := true, recurses := true, apart := false }
def FnIndexFindSaid : Prop := fnIndexFindRow.holds Try.pinned (OpenSpec.ofChange fnIndexFindSpec)

/-- ITS FALSE NEIGHBOUR: 'it returns false'. Refute it at one input. -/
def fnIndexFindWrong : ChangeSpec := { name := "fnIndexFind", fn := fun _ => fun
  | [d] => { results := [.lit (.bool false)], args := [d] }
  | _ => none }
def FnIndexFindWrongFalsely : Prop := fnIndexFindRow.holds Try.pinned (OpenSpec.ofChange fnIndexFindWrong)

/-- 'laws.FnIndexBetween': WHATEVER THE INPUT: true; the input reads as it did. -/
def fnIndexBetweenSpec : ChangeSpec := { name := "fnIndexBetween", fn := fun _ => fun
  | [d] => { results := [.lit (.bool true)], args := [d] }
  | _ => none }
def fnIndexBetweenRow : OpenClaim := { program := "ytfbjbkkcilhgjaa", sum := "116ff954fb8d14c07409cfc286ef26062b732d331a54b2b79767062ccfa0133d", func := "loop.example/tablehouse/laws.FnIndexBetween", spec := "fnIndexBetween", unfollowed := true, recurses := true, apart := false }
def FnIndexBetweenSaid : Prop := fnIndexBetweenRow.holds Try.pinned (OpenSpec.ofChange fnIndexBetweenSpec)

/-- ITS FALSE NEIGHBOUR: 'it returns false'. Refute it at one input. -/
def fnIndexBetweenWrong : ChangeSpec := { name := "fnIndexBetween", fn := fun _ => fun
  | [d] => { results := [.lit (.bool false)], args := [d] }
  | _ => none }
def FnIndexBetweenWrongFalsely : Prop := fnIndexBetweenRow.holds Try.pinned (OpenSpec.ofChange fnIndexBetweenWrong)

/-- 'laws.FnExactLogCut': WHATEVER THE INPUT: true; the input reads as it did. -/
def fnExactLogCutSpec : ChangeSpec := { name := "fnExactLogCut", fn := fun _ => fun
  | [d1, d2] => { results := [.lit (.bool true)], args := [d1, d2] }
  | _ => none }
def fnExactLogCutRow : OpenClaim := { program := "ytfbjbkkcilhgjaa", sum := "116ff954fb8d14c07409cfc286ef26062b732d331a54b2b79767062ccfa0133d", func := "loop.example/tablehouse/laws.FnExactLogCut", spec := "fnExactLogCut", unfollowed := true, recurses := true, apart := false }
def FnExactLogCutSaid : Prop := fnExactLogCutRow.holds Try.pinned (OpenSpec.ofChange fnExactLogCutSpec)

/-- ITS FALSE NEIGHBOUR: 'it returns false'. Refute it at one input. -/
def fnExactLogCutWrong : ChangeSpec := { name := "fnExactLogCut", fn := fun _ => fun
  | [d1, d2] => { results := [.lit (.bool false)], args := [d1, d2] }
  | _ => none }
def FnExactLogCutWrongFalsely : Prop := fnExactLogCutRow.holds Try.pinned (OpenSpec.ofChange fnExactLogCutWrong)

/- THE SECOND FORM. 'bulk': how many values and letters a reading holds, each counted each time it is reached (what is shared counts as often as it is met; a slice's spare places count too). A statement '..UptoSaid' is the law's where the arguments, and the package variables that the reading takes, are together of bulk at most 1048576: NARROWER than '..Said'. Prove '..Said' where nothing that the law and all that it calls make is longer than what came in: it says more and counts as full. Else prove '..UptoSaid'. A law counts once. -/
mutual
def uptoBulk {H : Type} : DataW H → Nat
  | .lit (.string bytes) => bytes.length + 1
  | .lit _ => 1
  | .nil => 1
  | .ptr d => uptoBulk d + 1
  | .slice elems spare => uptoBulkAll elems + uptoBulkAll spare + 1
  | .agg parts => uptoBulkAll parts + 1
  | .iface _ d => uptoBulk d + 1
  | .map entries => uptoBulkEntries entries + 1
  | .held _ => 1
def uptoBulkAll {H : Type} : List (DataW H) → Nat
  | [] => 0
  | d :: r => uptoBulk d + uptoBulkAll r
def uptoBulkEntries {H : Type} : List (Lit × DataW H) → Nat
  | [] => 0
  | x :: r => uptoBulkEntry x + uptoBulkEntries r
def uptoBulkEntry {H : Type} : Lit × DataW H → Nat
  | (.string bytes, d) => bytes.length + uptoBulk d + 1
  | (_, d) => uptoBulk d + 1
 end
def uptoSmall : (H : Type) → List (DataW H) → Bool := fun _ ds => decide (uptoBulkAll ds ≤ 1048576)
def OpenSpec.upto (s : _root_.Go.ChangeSpec) : _root_.Go.OpenSpec := { _root_.Go.OpenSpec.ofChange s with cond := some uptoSmall }

/-- 'laws.FnTableAt', WHERE WHAT IT READS IS OF BULK AT MOST 1048576: true; the input reads as it did. -/
def fnTableAtUptoRow : OpenClaim := { program := "ytfbjbkkcilhgjaa", sum := "116ff954fb8d14c07409cfc286ef26062b732d331a54b2b79767062ccfa0133d", func := "loop.example/tablehouse/laws.FnTableAt", spec := "fnTableAt", unfollowed := true, recurses := true, apart := false, narrowed := true }
def FnTableAtUptoSaid : Prop := fnTableAtUptoRow.holds Try.pinned (OpenSpec.upto fnTableAtSpec)

/-- 'laws.FnSweptAt', WHERE WHAT IT READS IS OF BULK AT MOST 1048576: true; the input reads as it did. -/
def fnSweptAtUptoRow : OpenClaim := { program := "ytfbjbkkcilhgjaa", sum := "116ff954fb8d14c07409cfc286ef26062b732d331a54b2b79767062ccfa0133d", func := "loop.example/tablehouse/laws.FnSweptAt", spec := "fnSweptAt", unfollowed := true, recurses := true, apart := false, narrowed := true }
def FnSweptAtUptoSaid : Prop := fnSweptAtUptoRow.holds Try.pinned (OpenSpec.upto fnSweptAtSpec)

/-- 'laws.FnExactTalliesRows', WHERE WHAT IT READS IS OF BULK AT MOST 1048576: true; the input reads as it did. -/
def fnExactTalliesRowsUptoRow : OpenClaim := { program := "ytfbjbkkcilhgjaa", sum := "116ff954fb8d14c07409cfc286ef26062b732d331a54b2b79767062ccfa0133d", func := "loop.example/tablehouse/laws.FnExactTalliesRows", spec := "fnExactTalliesRows", unfollowed := true, recurses := true, apart := false, narrowed := true }
def FnExactTalliesRowsUptoSaid : Prop := fnExactTalliesRowsUptoRow.holds Try.pinned (OpenSpec.upto fnExactTalliesRowsSpec)

/-- 'laws.FnTalliesRows', WHERE WHAT IT READS IS OF BULK AT MOST 1048576: true; the input reads as it did. -/
def fnTalliesRowsUptoRow : OpenClaim := { program := "ytfbjbkkcilhgjaa", sum := "116ff954fb8d14c07409cfc286ef26062b732d331a54b2b79767062ccfa0133d", func := "loop.example/tablehouse/laws.FnTalliesRows", spec := "fnTalliesRows", unfollowed := true, recurses := true, apart := false, narrowed := true }
def FnTalliesRowsUptoSaid : Prop := fnTalliesRowsUptoRow.holds Try.pinned (OpenSpec.upto fnTalliesRowsSpec)

/-- 'laws.FnIndexOk', WHERE WHAT IT READS IS OF BULK AT MOST 1048576: true; the input reads as it did. -/
def fnIndexOkUptoRow : OpenClaim := { program := "ytfbjbkkcilhgjaa", sum := "116ff954fb8d14c07409cfc286ef26062b732d331a54b2b79767062ccfa0133d", func := "loop.example/tablehouse/laws.FnIndexOk", spec := "fnIndexOk", unfollowed := true, recurses := true, apart := false, narrowed := true }
def FnIndexOkUptoSaid : Prop := fnIndexOkUptoRow.holds Try.pinned (OpenSpec.upto fnIndexOkSpec)

/-- 'laws.FnIndexFind', WHERE WHAT IT READS IS OF BULK AT MOST 1048576: true; the input reads as it did. -/
def fnIndexFindUptoRow : OpenClaim := { program := "ytfbjbkkcilhgjaa", sum := "116ff954fb8d14c07409cfc286ef26062b732d331a54b2b79767062ccfa0133d", func := "loop.example/tablehouse/laws.FnIndexFind", spec := "fnIndexFind", unfollowed := true, recurses := true, apart := false, narrowed := true }
def FnIndexFindUptoSaid : Prop := fnIndexFindUptoRow.holds Try.pinned (OpenSpec.upto fnIndexFindSpec)

/-- 'laws.FnIndexBetween', WHERE WHAT IT READS IS OF BULK AT MOST 1048576: true; the input reads as it did. -/
def fnIndexBetweenUptoRow : OpenClaim := { program := "ytfbjbkkcilhgjaa", sum := "116ff954fb8d14c07409cfc286ef26062b732d331a54b2b79767062ccfa0133d", func := "loop.example/tablehouse/laws.FnIndexBetween", spec := "fnIndexBetween", unfollowed := true, recurses := true, apart := false, narrowed := true }
def FnIndexBetweenUptoSaid : Prop := fnIndexBetweenUptoRow.holds Try.pinned (OpenSpec.upto fnIndexBetweenSpec)

/-- 'laws.FnExactLogCut', WHERE WHAT IT READS IS OF BULK AT MOST 1048576: true; the input reads as it did. -/
def fnExactLogCutUptoRow : OpenClaim := { program := "ytfbjbkkcilhgjaa", sum := "116ff954fb8d14c07409cfc286ef26062b732d331a54b2b79767062ccfa0133d", func := "loop.example/tablehouse/laws.FnExactLogCut", spec := "fnExactLogCut", unfollowed := true, recurses := true, apart := false, narrowed := true }
def FnExactLogCutUptoSaid : Prop := fnExactLogCutUptoRow.holds Try.pinned (OpenSpec.upto fnExactLogCutSpec)

end Rows
end Go.Proofs.Ytfbjbkkcilhgjaa
