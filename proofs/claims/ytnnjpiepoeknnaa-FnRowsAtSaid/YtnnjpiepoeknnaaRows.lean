/-
  No cell of these rows narrows 'for every input' (looked for: loops, veiled, ifaces, maps, wideKeys, modest, calm, conditions, laid).
  DERIVED. THE GIVEN ROWS OF THIS SEAT. 12 by the template 'for every input the law returns true; each argument reads behind the call as it read before'; 0 by the template 'total and deterministic' (their statements: YtnnjpiepoeknnaaTotals.lean).
  GIVEN WITH THE SEED: the statements are not yours to turn. If you find one false, say at which input.
  Laid BY PROGRAM, IN A SANDBOX (cutbox-rows.mjs): the forced cells as the released guide's own fill.sh prints them over the translation 6581ab3263e757a8… (all of the seat's roots in one cut). By AI agents, Wed Nov 11 2026. No macro, syntax, notation, axiom, sorry.
-/
import Derived.Test.YtnnjpiepoeknnaaChecked
import GoSem.Claim
import GoSem.ClaimJoined
import GoSem.ClaimMapViews
import Derived.JoinedTies
import Derived.KernelRfl
namespace Go.Proofs.Ytnnjpiepoeknnaa
/- THE CELL 'sum', in the pinned program and in every row, IS THE sha256 OF THE DUMP (.gsa) THAT YtnnjpiepoeknnaaProg.lean LOADS. Nothing in Lean hashes anything: it is a label: what it is worth is what the hold of that sum in a sandbox is worth. -/
noncomputable def Try.pinned : Pinned := { name := "ytnnjpiepoeknnaa", sum := "6581ab3263e757a89ad3630ace4c397c8cda2d287e286eed4e856b2117c90c84", checked := Try.checked }
namespace Rows
def none {H : Type} : Left H := { results := [], args := [] }

/-- 'laws.FnMayHold': WHATEVER THE INPUT: true; the input reads as it did. -/
def fnMayHoldSpec : ChangeSpec := { name := "fnMayHold", fn := fun _ => fun
  | [d] => { results := [.lit (.bool true)], args := [d] }
  | _ => none }
def fnMayHoldRow : OpenClaim := { program := "ytnnjpiepoeknnaa", sum := "6581ab3263e757a89ad3630ace4c397c8cda2d287e286eed4e856b2117c90c84", func := "loop.example/tablehouse/laws.FnMayHold", spec := "fnMayHold", apart := false }
def FnMayHoldSaid : Prop := fnMayHoldRow.holds Try.pinned (OpenSpec.ofChange fnMayHoldSpec)

/-- ITS FALSE NEIGHBOUR: 'it returns false'. Refute it at one input. -/
def fnMayHoldWrong : ChangeSpec := { name := "fnMayHold", fn := fun _ => fun
  | [d] => { results := [.lit (.bool false)], args := [d] }
  | _ => none }
def FnMayHoldWrongFalsely : Prop := fnMayHoldRow.holds Try.pinned (OpenSpec.ofChange fnMayHoldWrong)

/-- 'laws.FnMustHold': WHATEVER THE INPUT: true; the input reads as it did. -/
def fnMustHoldSpec : ChangeSpec := { name := "fnMustHold", fn := fun _ => fun
  | [d] => { results := [.lit (.bool true)], args := [d] }
  | _ => none }
def fnMustHoldRow : OpenClaim := { program := "ytnnjpiepoeknnaa", sum := "6581ab3263e757a89ad3630ace4c397c8cda2d287e286eed4e856b2117c90c84", func := "loop.example/tablehouse/laws.FnMustHold", spec := "fnMustHold", apart := false }
def FnMustHoldSaid : Prop := fnMustHoldRow.holds Try.pinned (OpenSpec.ofChange fnMustHoldSpec)

/-- ITS FALSE NEIGHBOUR: 'it returns false'. Refute it at one input. -/
def fnMustHoldWrong : ChangeSpec := { name := "fnMustHold", fn := fun _ => fun
  | [d] => { results := [.lit (.bool false)], args := [d] }
  | _ => none }
def FnMustHoldWrongFalsely : Prop := fnMustHoldRow.holds Try.pinned (OpenSpec.ofChange fnMustHoldWrong)

/-- 'laws.FnManyBounds': WHATEVER THE INPUT: true; the input reads as it did. -/
def fnManyBoundsSpec : ChangeSpec := { name := "fnManyBounds", fn := fun _ => fun
  | [d] => { results := [.lit (.bool true)], args := [d] }
  | _ => none }
def fnManyBoundsRow : OpenClaim := { program := "ytnnjpiepoeknnaa", sum := "6581ab3263e757a89ad3630ace4c397c8cda2d287e286eed4e856b2117c90c84", func := "loop.example/tablehouse/laws.FnManyBounds", spec := "fnManyBounds", apart := false }
def FnManyBoundsSaid : Prop := fnManyBoundsRow.holds Try.pinned (OpenSpec.ofChange fnManyBoundsSpec)

/-- ITS FALSE NEIGHBOUR: 'it returns false'. Refute it at one input. -/
def fnManyBoundsWrong : ChangeSpec := { name := "fnManyBounds", fn := fun _ => fun
  | [d] => { results := [.lit (.bool false)], args := [d] }
  | _ => none }
def FnManyBoundsWrongFalsely : Prop := fnManyBoundsRow.holds Try.pinned (OpenSpec.ofChange fnManyBoundsWrong)

/-- 'laws.FnKnownColumn': WHATEVER THE INPUT: true; the input reads as it did. -/
def fnKnownColumnSpec : ChangeSpec := { name := "fnKnownColumn", fn := fun _ => fun
  | [d] => { results := [.lit (.bool true)], args := [d] }
  | _ => none }
def fnKnownColumnRow : OpenClaim := { program := "ytnnjpiepoeknnaa", sum := "6581ab3263e757a89ad3630ace4c397c8cda2d287e286eed4e856b2117c90c84", func := "loop.example/tablehouse/laws.FnKnownColumn", spec := "fnKnownColumn", unfollowed := true, recurses := true, apart := false }
def FnKnownColumnSaid : Prop := fnKnownColumnRow.holds Try.pinned (OpenSpec.ofChange fnKnownColumnSpec)

/-- ITS FALSE NEIGHBOUR: 'it returns false'. Refute it at one input. -/
def fnKnownColumnWrong : ChangeSpec := { name := "fnKnownColumn", fn := fun _ => fun
  | [d] => { results := [.lit (.bool false)], args := [d] }
  | _ => none }
def FnKnownColumnWrongFalsely : Prop := fnKnownColumnRow.holds Try.pinned (OpenSpec.ofChange fnKnownColumnWrong)

/-- 'laws.FnExactKnownColumn': WHATEVER THE INPUT: true; the input reads as it did. -/
def fnExactKnownColumnSpec : ChangeSpec := { name := "fnExactKnownColumn", fn := fun _ => fun
  | [d1, d2, d3] => { results := [.lit (.bool true)], args := [d1, d2, d3] }
  | _ => none }
def fnExactKnownColumnRow : OpenClaim := { program := "ytnnjpiepoeknnaa", sum := "6581ab3263e757a89ad3630ace4c397c8cda2d287e286eed4e856b2117c90c84", func := "loop.example/tablehouse/laws.FnExactKnownColumn", spec := "fnExactKnownColumn", unfollowed := true, recurses := true, apart := false }
def FnExactKnownColumnSaid : Prop := fnExactKnownColumnRow.holds Try.pinned (OpenSpec.ofChange fnExactKnownColumnSpec)

/-- ITS FALSE NEIGHBOUR: 'it returns false'. Refute it at one input. -/
def fnExactKnownColumnWrong : ChangeSpec := { name := "fnExactKnownColumn", fn := fun _ => fun
  | [d1, d2, d3] => { results := [.lit (.bool false)], args := [d1, d2, d3] }
  | _ => none }
def FnExactKnownColumnWrongFalsely : Prop := fnExactKnownColumnRow.holds Try.pinned (OpenSpec.ofChange fnExactKnownColumnWrong)

/-- 'laws.FnSkipped': WHATEVER THE INPUT: true; the input reads as it did. -/
def fnSkippedSpec : ChangeSpec := { name := "fnSkipped", fn := fun _ => fun
  | [d] => { results := [.lit (.bool true)], args := [d] }
  | _ => none }
def fnSkippedRow : OpenClaim := { program := "ytnnjpiepoeknnaa", sum := "6581ab3263e757a89ad3630ace4c397c8cda2d287e286eed4e856b2117c90c84", func := "loop.example/tablehouse/laws.FnSkipped", spec := "fnSkipped", unfollowed := true, recurses := true, apart := false }
def FnSkippedSaid : Prop := fnSkippedRow.holds Try.pinned (OpenSpec.ofChange fnSkippedSpec)

/-- ITS FALSE NEIGHBOUR: 'it returns false'. Refute it at one input. -/
def fnSkippedWrong : ChangeSpec := { name := "fnSkipped", fn := fun _ => fun
  | [d] => { results := [.lit (.bool false)], args := [d] }
  | _ => none }
def FnSkippedWrongFalsely : Prop := fnSkippedRow.holds Try.pinned (OpenSpec.ofChange fnSkippedWrong)

/-- 'laws.FnRowsAt': WHATEVER THE INPUT: true; the input reads as it did. -/
def fnRowsAtSpec : ChangeSpec := { name := "fnRowsAt", fn := fun _ => fun
  | [d] => { results := [.lit (.bool true)], args := [d] }
  | _ => none }
def fnRowsAtRow : OpenClaim := { program := "ytnnjpiepoeknnaa", sum := "6581ab3263e757a89ad3630ace4c397c8cda2d287e286eed4e856b2117c90c84", func := "loop.example/tablehouse/laws.FnRowsAt", spec := "fnRowsAt", unfollowed := true, recurses := true, apart := false }
def FnRowsAtSaid : Prop := fnRowsAtRow.holds Try.pinned (OpenSpec.ofChange fnRowsAtSpec)

/-- ITS FALSE NEIGHBOUR: 'it returns false'. Refute it at one input. -/
def fnRowsAtWrong : ChangeSpec := { name := "fnRowsAt", fn := fun _ => fun
  | [d] => { results := [.lit (.bool false)], args := [d] }
  | _ => none }
def FnRowsAtWrongFalsely : Prop := fnRowsAtRow.holds Try.pinned (OpenSpec.ofChange fnRowsAtWrong)

/-- 'laws.FnExactChangesOf': WHATEVER THE INPUT: true; the input reads as it did. -/
def fnExactChangesOfSpec : ChangeSpec := { name := "fnExactChangesOf", fn := fun _ => fun
  | [d1, d2] => { results := [.lit (.bool true)], args := [d1, d2] }
  | _ => none }
def fnExactChangesOfRow : OpenClaim := { program := "ytnnjpiepoeknnaa", sum := "6581ab3263e757a89ad3630ace4c397c8cda2d287e286eed4e856b2117c90c84", func := "loop.example/tablehouse/laws.FnExactChangesOf", spec := "fnExactChangesOf", unfollowed := true, recurses := true, apart := false }
def FnExactChangesOfSaid : Prop := fnExactChangesOfRow.holds Try.pinned (OpenSpec.ofChange fnExactChangesOfSpec)

/-- ITS FALSE NEIGHBOUR: 'it returns false'. Refute it at one input. -/
def fnExactChangesOfWrong : ChangeSpec := { name := "fnExactChangesOf", fn := fun _ => fun
  | [d1, d2] => { results := [.lit (.bool false)], args := [d1, d2] }
  | _ => none }
def FnExactChangesOfWrongFalsely : Prop := fnExactChangesOfRow.holds Try.pinned (OpenSpec.ofChange fnExactChangesOfWrong)

/-- 'laws.FnSweptAt': WHATEVER THE INPUT: true; the input reads as it did. -/
def fnSweptAtSpec : ChangeSpec := { name := "fnSweptAt", fn := fun _ => fun
  | [d] => { results := [.lit (.bool true)], args := [d] }
  | _ => none }
def fnSweptAtRow : OpenClaim := { program := "ytnnjpiepoeknnaa", sum := "6581ab3263e757a89ad3630ace4c397c8cda2d287e286eed4e856b2117c90c84", func := "loop.example/tablehouse/laws.FnSweptAt", spec := "fnSweptAt", unfollowed := true, recurses := true, apart := false }
def FnSweptAtSaid : Prop := fnSweptAtRow.holds Try.pinned (OpenSpec.ofChange fnSweptAtSpec)

/-- ITS FALSE NEIGHBOUR: 'it returns false'. Refute it at one input. -/
def fnSweptAtWrong : ChangeSpec := { name := "fnSweptAt", fn := fun _ => fun
  | [d] => { results := [.lit (.bool false)], args := [d] }
  | _ => none }
def FnSweptAtWrongFalsely : Prop := fnSweptAtRow.holds Try.pinned (OpenSpec.ofChange fnSweptAtWrong)

/-- 'laws.FnTableAt': WHATEVER THE INPUT: true; the input reads as it did. -/
def fnTableAtSpec : ChangeSpec := { name := "fnTableAt", fn := fun _ => fun
  | [d] => { results := [.lit (.bool true)], args := [d] }
  | _ => none }
def fnTableAtRow : OpenClaim := { program := "ytnnjpiepoeknnaa", sum := "6581ab3263e757a89ad3630ace4c397c8cda2d287e286eed4e856b2117c90c84", func := "loop.example/tablehouse/laws.FnTableAt", spec := "fnTableAt", unfollowed := true, recurses := true, apart := false }
def FnTableAtSaid : Prop := fnTableAtRow.holds Try.pinned (OpenSpec.ofChange fnTableAtSpec)

/-- ITS FALSE NEIGHBOUR: 'it returns false'. Refute it at one input. -/
def fnTableAtWrong : ChangeSpec := { name := "fnTableAt", fn := fun _ => fun
  | [d] => { results := [.lit (.bool false)], args := [d] }
  | _ => none }
def FnTableAtWrongFalsely : Prop := fnTableAtRow.holds Try.pinned (OpenSpec.ofChange fnTableAtWrong)

/-- 'laws.FnExactTableAt': WHATEVER THE INPUT: true; the input reads as it did. -/
def fnExactTableAtSpec : ChangeSpec := { name := "fnExactTableAt", fn := fun _ => fun
  | [d1, d2, d3] => { results := [.lit (.bool true)], args := [d1, d2, d3] }
  | _ => none }
def fnExactTableAtRow : OpenClaim := { program := "ytnnjpiepoeknnaa", sum := "6581ab3263e757a89ad3630ace4c397c8cda2d287e286eed4e856b2117c90c84", func := "loop.example/tablehouse/laws.FnExactTableAt", spec := "fnExactTableAt", unfollowed := true, recurses := true, apart := false }
def FnExactTableAtSaid : Prop := fnExactTableAtRow.holds Try.pinned (OpenSpec.ofChange fnExactTableAtSpec)

/-- ITS FALSE NEIGHBOUR: 'it returns false'. Refute it at one input. -/
def fnExactTableAtWrong : ChangeSpec := { name := "fnExactTableAt", fn := fun _ => fun
  | [d1, d2, d3] => { results := [.lit (.bool false)], args := [d1, d2, d3] }
  | _ => none }
def FnExactTableAtWrongFalsely : Prop := fnExactTableAtRow.holds Try.pinned (OpenSpec.ofChange fnExactTableAtWrong)

/-- 'laws.FnTablesAfter': WHATEVER THE INPUT: true; the input reads as it did. -/
def fnTablesAfterSpec : ChangeSpec := { name := "fnTablesAfter", fn := fun _ => fun
  | [d] => { results := [.lit (.bool true)], args := [d] }
  | _ => none }
def fnTablesAfterRow : OpenClaim := { program := "ytnnjpiepoeknnaa", sum := "6581ab3263e757a89ad3630ace4c397c8cda2d287e286eed4e856b2117c90c84", func := "loop.example/tablehouse/laws.FnTablesAfter", spec := "fnTablesAfter", unfollowed := true, recurses := true, apart := false }
def FnTablesAfterSaid : Prop := fnTablesAfterRow.holds Try.pinned (OpenSpec.ofChange fnTablesAfterSpec)

/-- ITS FALSE NEIGHBOUR: 'it returns false'. Refute it at one input. -/
def fnTablesAfterWrong : ChangeSpec := { name := "fnTablesAfter", fn := fun _ => fun
  | [d] => { results := [.lit (.bool false)], args := [d] }
  | _ => none }
def FnTablesAfterWrongFalsely : Prop := fnTablesAfterRow.holds Try.pinned (OpenSpec.ofChange fnTablesAfterWrong)

/- THE SECOND FORM. 'bulk': how many values and letters a reading holds, each counted each time it is reached (what is shared counts as often as it is met; a slice's spare places count too). A statement '..UptoSaid' is the law's where the arguments, and the package variables that the reading takes, are together of bulk at most 1048576: NARROWER than '..Said'. Prove '..Said' where nothing that the law and all that it calls make is longer than what came in: it says more and counts as full. Else prove '..UptoSaid'. A law counts once. -/
mutual
def uptoBulk {H : Type} : DataW H → Nat
  | .lit (.string bytes) => bytes.length + 1
  | .lit _ => 1
  | .nil => 1
  | .ptr d => uptoBulk d + 1
  | .slice elems spare => uptoBulkAll elems + uptoBulkAll spare + 1
  | .agg parts => uptoBulkAll parts + 1
  | .iface _ d => uptoBulk d + 1
  | .map entries => uptoBulkEntries entries + 1
  | .held _ => 1
def uptoBulkAll {H : Type} : List (DataW H) → Nat
  | [] => 0
  | d :: r => uptoBulk d + uptoBulkAll r
def uptoBulkEntries {H : Type} : List (Lit × DataW H) → Nat
  | [] => 0
  | x :: r => uptoBulkEntry x + uptoBulkEntries r
def uptoBulkEntry {H : Type} : Lit × DataW H → Nat
  | (.string bytes, d) => bytes.length + uptoBulk d + 1
  | (_, d) => uptoBulk d + 1
 end
def uptoSmall : (H : Type) → List (DataW H) → Bool := fun _ ds => decide (uptoBulkAll ds ≤ 1048576)
def OpenSpec.upto (s : _root_.Go.ChangeSpec) : _root_.Go.OpenSpec := { _root_.Go.OpenSpec.ofChange s with cond := some uptoSmall }

/-- 'laws.FnMayHold', WHERE WHAT IT READS IS OF BULK AT MOST 1048576: true; the input reads as it did. -/
def fnMayHoldUptoRow : OpenClaim := { program := "ytnnjpiepoeknnaa", sum := "6581ab3263e757a89ad3630ace4c397c8cda2d287e286eed4e856b2117c90c84", func := "loop.example/tablehouse/laws.FnMayHold", spec := "fnMayHold", apart := false, narrowed := true }
def FnMayHoldUptoSaid : Prop := fnMayHoldUptoRow.holds Try.pinned (OpenSpec.upto fnMayHoldSpec)

/-- 'laws.FnMustHold', WHERE WHAT IT READS IS OF BULK AT MOST 1048576: true; the input reads as it did. -/
def fnMustHoldUptoRow : OpenClaim := { program := "ytnnjpiepoeknnaa", sum := "6581ab3263e757a89ad3630ace4c397c8cda2d287e286eed4e856b2117c90c84", func := "loop.example/tablehouse/laws.FnMustHold", spec := "fnMustHold", apart := false, narrowed := true }
def FnMustHoldUptoSaid : Prop := fnMustHoldUptoRow.holds Try.pinned (OpenSpec.upto fnMustHoldSpec)

/-- 'laws.FnManyBounds', WHERE WHAT IT READS IS OF BULK AT MOST 1048576: true; the input reads as it did. -/
def fnManyBoundsUptoRow : OpenClaim := { program := "ytnnjpiepoeknnaa", sum := "6581ab3263e757a89ad3630ace4c397c8cda2d287e286eed4e856b2117c90c84", func := "loop.example/tablehouse/laws.FnManyBounds", spec := "fnManyBounds", apart := false, narrowed := true }
def FnManyBoundsUptoSaid : Prop := fnManyBoundsUptoRow.holds Try.pinned (OpenSpec.upto fnManyBoundsSpec)

/-- 'laws.FnKnownColumn', WHERE WHAT IT READS IS OF BULK AT MOST 1048576: true; the input reads as it did. -/
def fnKnownColumnUptoRow : OpenClaim := { program := "ytnnjpiepoeknnaa", sum := "6581ab3263e757a89ad3630ace4c397c8cda2d287e286eed4e856b2117c90c84", func := "loop.example/tablehouse/laws.FnKnownColumn", spec := "fnKnownColumn", unfollowed := true, recurses := true, apart := false, narrowed := true }
def FnKnownColumnUptoSaid : Prop := fnKnownColumnUptoRow.holds Try.pinned (OpenSpec.upto fnKnownColumnSpec)

/-- 'laws.FnExactKnownColumn', WHERE WHAT IT READS IS OF BULK AT MOST 1048576: true; the input reads as it did. -/
def fnExactKnownColumnUptoRow : OpenClaim := { program := "ytnnjpiepoeknnaa", sum := "6581ab3263e757a89ad3630ace4c397c8cda2d287e286eed4e856b2117c90c84", func := "loop.example/tablehouse/laws.FnExactKnownColumn", spec := "fnExactKnownColumn", unfollowed := true, recurses := true, apart := false, narrowed := true }
def FnExactKnownColumnUptoSaid : Prop := fnExactKnownColumnUptoRow.holds Try.pinned (OpenSpec.upto fnExactKnownColumnSpec)

/-- 'laws.FnSkipped', WHERE WHAT IT READS IS OF BULK AT MOST 1048576: true; the input reads as it did. -/
def fnSkippedUptoRow : OpenClaim := { program := "ytnnjpiepoeknnaa", sum := "6581ab3263e757a89ad3630ace4c397c8cda2d287e286eed4e856b2117c90c84", func := "loop.example/tablehouse/laws.FnSkipped", spec := "fnSkipped", unfollowed := true, recurses := true, apart := false, narrowed := true }
def FnSkippedUptoSaid : Prop := fnSkippedUptoRow.holds Try.pinned (OpenSpec.upto fnSkippedSpec)

/-- 'laws.FnRowsAt', WHERE WHAT IT READS IS OF BULK AT MOST 1048576: true; the input reads as it did. -/
def fnRowsAtUptoRow : OpenClaim := { program := "ytnnjpiepoeknnaa", sum := "6581ab3263e757a89ad3630ace4c397c8cda2d287e286eed4e856b2117c90c84", func := "loop.example/tablehouse/laws.FnRowsAt", spec := "fnRowsAt", unfollowed := true, recurses := true, apart := false, narrowed := true }
def FnRowsAtUptoSaid : Prop := fnRowsAtUptoRow.holds Try.pinned (OpenSpec.upto fnRowsAtSpec)

/-- 'laws.FnExactChangesOf', WHERE WHAT IT READS IS OF BULK AT MOST 1048576: true; the input reads as it did. -/
def fnExactChangesOfUptoRow : OpenClaim := { program := "ytnnjpiepoeknnaa", sum := "6581ab3263e757a89ad3630ace4c397c8cda2d287e286eed4e856b2117c90c84", func := "loop.example/tablehouse/laws.FnExactChangesOf", spec := "fnExactChangesOf", unfollowed := true, recurses := true, apart := false, narrowed := true }
def FnExactChangesOfUptoSaid : Prop := fnExactChangesOfUptoRow.holds Try.pinned (OpenSpec.upto fnExactChangesOfSpec)

/-- 'laws.FnSweptAt', WHERE WHAT IT READS IS OF BULK AT MOST 1048576: true; the input reads as it did. -/
def fnSweptAtUptoRow : OpenClaim := { program := "ytnnjpiepoeknnaa", sum := "6581ab3263e757a89ad3630ace4c397c8cda2d287e286eed4e856b2117c90c84", func := "loop.example/tablehouse/laws.FnSweptAt", spec := "fnSweptAt", unfollowed := true, recurses := true, apart := false, narrowed := true }
def FnSweptAtUptoSaid : Prop := fnSweptAtUptoRow.holds Try.pinned (OpenSpec.upto fnSweptAtSpec)

/-- 'laws.FnTableAt', WHERE WHAT IT READS IS OF BULK AT MOST 1048576: true; the input reads as it did. -/
def fnTableAtUptoRow : OpenClaim := { program := "ytnnjpiepoeknnaa", sum := "6581ab3263e757a89ad3630ace4c397c8cda2d287e286eed4e856b2117c90c84", func := "loop.example/tablehouse/laws.FnTableAt", spec := "fnTableAt", unfollowed := true, recurses := true, apart := false, narrowed := true }
def FnTableAtUptoSaid : Prop := fnTableAtUptoRow.holds Try.pinned (OpenSpec.upto fnTableAtSpec)

/-- 'laws.FnExactTableAt', WHERE WHAT IT READS IS OF BULK AT MOST 1048576: true; the input reads as it did. -/
def fnExactTableAtUptoRow : OpenClaim := { program := "ytnnjpiepoeknnaa", sum := "6581ab3263e757a89ad3630ace4c397c8cda2d287e286eed4e856b2117c90c84", func := "loop.example/tablehouse/laws.FnExactTableAt", spec := "fnExactTableAt", unfollowed := true, recurses := true, apart := false, narrowed := true }
def FnExactTableAtUptoSaid : Prop := fnExactTableAtUptoRow.holds Try.pinned (OpenSpec.upto fnExactTableAtSpec)

/-- 'laws.FnTablesAfter', WHERE WHAT IT READS IS OF BULK AT MOST 1048576: true; the input reads as it did. -/
def fnTablesAfterUptoRow : OpenClaim := { program := "ytnnjpiepoeknnaa", sum := "6581ab3263e757a89ad3630ace4c397c8cda2d287e286eed4e856b2117c90c84", func := "loop.example/tablehouse/laws.FnTablesAfter", spec := "fnTablesAfter", unfollowed := true, recurses := true, apart := false, narrowed := true }
def FnTablesAfterUptoSaid : Prop := fnTablesAfterUptoRow.holds Try.pinned (OpenSpec.upto fnTablesAfterSpec)

end Rows
end Go.Proofs.Ytnnjpiepoeknnaa
