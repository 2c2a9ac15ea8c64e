/-
  No cell of these rows narrows 'for every input' (looked for: loops, veiled, ifaces, maps, wideKeys, modest, calm, conditions, laid).
  DERIVED. THE GIVEN ROWS OF THIS SEAT. 12 by the template 'for every input the law returns true; each argument reads behind the call as it read before'; 0 by the template 'total and deterministic' (their statements: YteaojpfofifmnaaTotals.lean).
  GIVEN WITH THE SEED: the statements are not yours to turn. If you find one false, say at which input.
  Laid BY PROGRAM, IN A SANDBOX (cutbox-rows.mjs): the forced cells as the released guide's own fill.sh prints them over the translation e328a5da09bed6ae… (all of the seat's roots in one cut). By AI agents, Wed Nov 11 2026. No macro, syntax, notation, axiom, sorry.
-/
import Derived.Test.YteaojpfofifmnaaChecked
import GoSem.Claim
import GoSem.ClaimJoined
import GoSem.ClaimMapViews
import Derived.JoinedTies
import Derived.KernelRfl
namespace Go.Proofs.Yteaojpfofifmnaa
/- THE CELL 'sum', in the pinned program and in every row, IS THE sha256 OF THE DUMP (.gsa) THAT YteaojpfofifmnaaProg.lean LOADS. Nothing in Lean hashes anything: it is a label: what it is worth is what the hold of that sum in a sandbox is worth. -/
noncomputable def Try.pinned : Pinned := { name := "yteaojpfofifmnaa", sum := "e328a5da09bed6aeeb38c07d9b41e416464248e44e82c673001e33c837e6fc7a", checked := Try.checked }
namespace Rows
def none {H : Type} : Left H := { results := [], args := [] }

/-- 'laws.FnExactEntryBytes': WHATEVER THE INPUT: true; the input reads as it did. -/
def fnExactEntryBytesSpec : ChangeSpec := { name := "fnExactEntryBytes", fn := fun _ => fun
  | [d] => { results := [.lit (.bool true)], args := [d] }
  | _ => none }
def fnExactEntryBytesRow : OpenClaim := { program := "yteaojpfofifmnaa", sum := "e328a5da09bed6aeeb38c07d9b41e416464248e44e82c673001e33c837e6fc7a", func := "loop.example/tablehouse/laws.FnExactEntryBytes", spec := "fnExactEntryBytes", unfollowed := true, recurses := true, apart := false }
def FnExactEntryBytesSaid : Prop := fnExactEntryBytesRow.holds Try.pinned (OpenSpec.ofChange fnExactEntryBytesSpec)

/-- ITS FALSE NEIGHBOUR: 'it returns false'. Refute it at one input. -/
def fnExactEntryBytesWrong : ChangeSpec := { name := "fnExactEntryBytes", fn := fun _ => fun
  | [d] => { results := [.lit (.bool false)], args := [d] }
  | _ => none }
def FnExactEntryBytesWrongFalsely : Prop := fnExactEntryBytesRow.holds Try.pinned (OpenSpec.ofChange fnExactEntryBytesWrong)

/-- 'laws.FnEntryBytes': WHATEVER THE INPUT: true; the input reads as it did. -/
def fnEntryBytesSpec : ChangeSpec := { name := "fnEntryBytes", fn := fun _ => fun
  | [d] => { results := [.lit (.bool true)], args := [d] }
  | _ => none }
def fnEntryBytesRow : OpenClaim := { program := "yteaojpfofifmnaa", sum := "e328a5da09bed6aeeb38c07d9b41e416464248e44e82c673001e33c837e6fc7a", func := "loop.example/tablehouse/laws.FnEntryBytes", spec := "fnEntryBytes", unfollowed := true, recurses := true, apart := false }
def FnEntryBytesSaid : Prop := fnEntryBytesRow.holds Try.pinned (OpenSpec.ofChange fnEntryBytesSpec)

/-- ITS FALSE NEIGHBOUR: 'it returns false'. Refute it at one input. -/
def fnEntryBytesWrong : ChangeSpec := { name := "fnEntryBytes", fn := fun _ => fun
  | [d] => { results := [.lit (.bool false)], args := [d] }
  | _ => none }
def FnEntryBytesWrongFalsely : Prop := fnEntryBytesRow.holds Try.pinned (OpenSpec.ofChange fnEntryBytesWrong)

/-- 'laws.FnRoadsBytes': WHATEVER THE INPUT: true; the input reads as it did. -/
def fnRoadsBytesSpec : ChangeSpec := { name := "fnRoadsBytes", fn := fun _ => fun
  | [d] => { results := [.lit (.bool true)], args := [d] }
  | _ => none }
def fnRoadsBytesRow : OpenClaim := { program := "yteaojpfofifmnaa", sum := "e328a5da09bed6aeeb38c07d9b41e416464248e44e82c673001e33c837e6fc7a", func := "loop.example/tablehouse/laws.FnRoadsBytes", spec := "fnRoadsBytes", unfollowed := true, recurses := true, apart := false }
def FnRoadsBytesSaid : Prop := fnRoadsBytesRow.holds Try.pinned (OpenSpec.ofChange fnRoadsBytesSpec)

/-- ITS FALSE NEIGHBOUR: 'it returns false'. Refute it at one input. -/
def fnRoadsBytesWrong : ChangeSpec := { name := "fnRoadsBytes", fn := fun _ => fun
  | [d] => { results := [.lit (.bool false)], args := [d] }
  | _ => none }
def FnRoadsBytesWrongFalsely : Prop := fnRoadsBytesRow.holds Try.pinned (OpenSpec.ofChange fnRoadsBytesWrong)

/-- 'laws.FnExactLogFrom': WHATEVER THE INPUT: true; the input reads as it did. -/
def fnExactLogFromSpec : ChangeSpec := { name := "fnExactLogFrom", fn := fun _ => fun
  | [d] => { results := [.lit (.bool true)], args := [d] }
  | _ => none }
def fnExactLogFromRow : OpenClaim := { program := "yteaojpfofifmnaa", sum := "e328a5da09bed6aeeb38c07d9b41e416464248e44e82c673001e33c837e6fc7a", func := "loop.example/tablehouse/laws.FnExactLogFrom", spec := "fnExactLogFrom", unfollowed := true, recurses := true, apart := false }
def FnExactLogFromSaid : Prop := fnExactLogFromRow.holds Try.pinned (OpenSpec.ofChange fnExactLogFromSpec)

/-- ITS FALSE NEIGHBOUR: 'it returns false'. Refute it at one input. -/
def fnExactLogFromWrong : ChangeSpec := { name := "fnExactLogFrom", fn := fun _ => fun
  | [d] => { results := [.lit (.bool false)], args := [d] }
  | _ => none }
def FnExactLogFromWrongFalsely : Prop := fnExactLogFromRow.holds Try.pinned (OpenSpec.ofChange fnExactLogFromWrong)

/-- 'laws.FnExactLogBehind': WHATEVER THE INPUT: true; the input reads as it did. -/
def fnExactLogBehindSpec : ChangeSpec := { name := "fnExactLogBehind", fn := fun _ => fun
  | [d1, d2] => { results := [.lit (.bool true)], args := [d1, d2] }
  | _ => none }
def fnExactLogBehindRow : OpenClaim := { program := "yteaojpfofifmnaa", sum := "e328a5da09bed6aeeb38c07d9b41e416464248e44e82c673001e33c837e6fc7a", func := "loop.example/tablehouse/laws.FnExactLogBehind", spec := "fnExactLogBehind", unfollowed := true, recurses := true, apart := false }
def FnExactLogBehindSaid : Prop := fnExactLogBehindRow.holds Try.pinned (OpenSpec.ofChange fnExactLogBehindSpec)

/-- ITS FALSE NEIGHBOUR: 'it returns false'. Refute it at one input. -/
def fnExactLogBehindWrong : ChangeSpec := { name := "fnExactLogBehind", fn := fun _ => fun
  | [d1, d2] => { results := [.lit (.bool false)], args := [d1, d2] }
  | _ => none }
def FnExactLogBehindWrongFalsely : Prop := fnExactLogBehindRow.holds Try.pinned (OpenSpec.ofChange fnExactLogBehindWrong)

/-- 'laws.FnExactLogCut': WHATEVER THE INPUT: true; the input reads as it did. -/
def fnExactLogCutSpec : ChangeSpec := { name := "fnExactLogCut", fn := fun _ => fun
  | [d1, d2] => { results := [.lit (.bool true)], args := [d1, d2] }
  | _ => none }
def fnExactLogCutRow : OpenClaim := { program := "yteaojpfofifmnaa", sum := "e328a5da09bed6aeeb38c07d9b41e416464248e44e82c673001e33c837e6fc7a", func := "loop.example/tablehouse/laws.FnExactLogCut", spec := "fnExactLogCut", unfollowed := true, recurses := true, apart := false }
def FnExactLogCutSaid : Prop := fnExactLogCutRow.holds Try.pinned (OpenSpec.ofChange fnExactLogCutSpec)

/-- ITS FALSE NEIGHBOUR: 'it returns false'. Refute it at one input. -/
def fnExactLogCutWrong : ChangeSpec := { name := "fnExactLogCut", fn := fun _ => fun
  | [d1, d2] => { results := [.lit (.bool false)], args := [d1, d2] }
  | _ => none }
def FnExactLogCutWrongFalsely : Prop := fnExactLogCutRow.holds Try.pinned (OpenSpec.ofChange fnExactLogCutWrong)

/-- 'laws.FnExactFollowed': WHATEVER THE INPUT: true; the input reads as it did. -/
def fnExactFollowedSpec : ChangeSpec := { name := "fnExactFollowed", fn := fun _ => fun
  | [d1, d2] => { results := [.lit (.bool true)], args := [d1, d2] }
  | _ => none }
def fnExactFollowedRow : OpenClaim := { program := "yteaojpfofifmnaa", sum := "e328a5da09bed6aeeb38c07d9b41e416464248e44e82c673001e33c837e6fc7a", func := "loop.example/tablehouse/laws.FnExactFollowed", spec := "fnExactFollowed", unfollowed := true, recurses := true, apart := false }
def FnExactFollowedSaid : Prop := fnExactFollowedRow.holds Try.pinned (OpenSpec.ofChange fnExactFollowedSpec)

/-- ITS FALSE NEIGHBOUR: 'it returns false'. Refute it at one input. -/
def fnExactFollowedWrong : ChangeSpec := { name := "fnExactFollowed", fn := fun _ => fun
  | [d1, d2] => { results := [.lit (.bool false)], args := [d1, d2] }
  | _ => none }
def FnExactFollowedWrongFalsely : Prop := fnExactFollowedRow.holds Try.pinned (OpenSpec.ofChange fnExactFollowedWrong)

/-- 'laws.FnExactLogBytes': WHATEVER THE INPUT: true; the input reads as it did. -/
def fnExactLogBytesSpec : ChangeSpec := { name := "fnExactLogBytes", fn := fun _ => fun
  | [d] => { results := [.lit (.bool true)], args := [d] }
  | _ => none }
def fnExactLogBytesRow : OpenClaim := { program := "yteaojpfofifmnaa", sum := "e328a5da09bed6aeeb38c07d9b41e416464248e44e82c673001e33c837e6fc7a", func := "loop.example/tablehouse/laws.FnExactLogBytes", spec := "fnExactLogBytes", unfollowed := true, recurses := true, apart := false }
def FnExactLogBytesSaid : Prop := fnExactLogBytesRow.holds Try.pinned (OpenSpec.ofChange fnExactLogBytesSpec)

/-- ITS FALSE NEIGHBOUR: 'it returns false'. Refute it at one input. -/
def fnExactLogBytesWrong : ChangeSpec := { name := "fnExactLogBytes", fn := fun _ => fun
  | [d] => { results := [.lit (.bool false)], args := [d] }
  | _ => none }
def FnExactLogBytesWrongFalsely : Prop := fnExactLogBytesRow.holds Try.pinned (OpenSpec.ofChange fnExactLogBytesWrong)

/-- 'laws.FnLogBytes': WHATEVER THE INPUT: true; the input reads as it did. -/
def fnLogBytesSpec : ChangeSpec := { name := "fnLogBytes", fn := fun _ => fun
  | [d] => { results := [.lit (.bool true)], args := [d] }
  | _ => none }
def fnLogBytesRow : OpenClaim := { program := "yteaojpfofifmnaa", sum := "e328a5da09bed6aeeb38c07d9b41e416464248e44e82c673001e33c837e6fc7a", func := "loop.example/tablehouse/laws.FnLogBytes", spec := "fnLogBytes", unfollowed := true, recurses := true, apart := false }
def FnLogBytesSaid : Prop := fnLogBytesRow.holds Try.pinned (OpenSpec.ofChange fnLogBytesSpec)

/-- ITS FALSE NEIGHBOUR: 'it returns false'. Refute it at one input. -/
def fnLogBytesWrong : ChangeSpec := { name := "fnLogBytes", fn := fun _ => fun
  | [d] => { results := [.lit (.bool false)], args := [d] }
  | _ => none }
def FnLogBytesWrongFalsely : Prop := fnLogBytesRow.holds Try.pinned (OpenSpec.ofChange fnLogBytesWrong)

/-- 'laws.FnExactEntryFrom': WHATEVER THE INPUT: true; the input reads as it did. -/
def fnExactEntryFromSpec : ChangeSpec := { name := "fnExactEntryFrom", fn := fun _ => fun
  | [d] => { results := [.lit (.bool true)], args := [d] }
  | _ => none }
def fnExactEntryFromRow : OpenClaim := { program := "yteaojpfofifmnaa", sum := "e328a5da09bed6aeeb38c07d9b41e416464248e44e82c673001e33c837e6fc7a", func := "loop.example/tablehouse/laws.FnExactEntryFrom", spec := "fnExactEntryFrom", unfollowed := true, recurses := true, apart := false }
def FnExactEntryFromSaid : Prop := fnExactEntryFromRow.holds Try.pinned (OpenSpec.ofChange fnExactEntryFromSpec)

/-- ITS FALSE NEIGHBOUR: 'it returns false'. Refute it at one input. -/
def fnExactEntryFromWrong : ChangeSpec := { name := "fnExactEntryFrom", fn := fun _ => fun
  | [d] => { results := [.lit (.bool false)], args := [d] }
  | _ => none }
def FnExactEntryFromWrongFalsely : Prop := fnExactEntryFromRow.holds Try.pinned (OpenSpec.ofChange fnExactEntryFromWrong)

/-- 'laws.FnExactHouseOk': WHATEVER THE INPUT: true; the input reads as it did. -/
def fnExactHouseOkSpec : ChangeSpec := { name := "fnExactHouseOk", fn := fun _ => fun
  | [d] => { results := [.lit (.bool true)], args := [d] }
  | _ => none }
def fnExactHouseOkRow : OpenClaim := { program := "yteaojpfofifmnaa", sum := "e328a5da09bed6aeeb38c07d9b41e416464248e44e82c673001e33c837e6fc7a", func := "loop.example/tablehouse/laws.FnExactHouseOk", spec := "fnExactHouseOk", unfollowed := true, recurses := true, apart := false }
def FnExactHouseOkSaid : Prop := fnExactHouseOkRow.holds Try.pinned (OpenSpec.ofChange fnExactHouseOkSpec)

/-- ITS FALSE NEIGHBOUR: 'it returns false'. Refute it at one input. -/
def fnExactHouseOkWrong : ChangeSpec := { name := "fnExactHouseOk", fn := fun _ => fun
  | [d] => { results := [.lit (.bool false)], args := [d] }
  | _ => none }
def FnExactHouseOkWrongFalsely : Prop := fnExactHouseOkRow.holds Try.pinned (OpenSpec.ofChange fnExactHouseOkWrong)

/-- 'laws.FnExactBeside': WHATEVER THE INPUT: true; the input reads as it did. -/
def fnExactBesideSpec : ChangeSpec := { name := "fnExactBeside", fn := fun _ => fun
  | [d1, d2, d3] => { results := [.lit (.bool true)], args := [d1, d2, d3] }
  | _ => none }
def fnExactBesideRow : OpenClaim := { program := "yteaojpfofifmnaa", sum := "e328a5da09bed6aeeb38c07d9b41e416464248e44e82c673001e33c837e6fc7a", func := "loop.example/tablehouse/laws.FnExactBeside", spec := "fnExactBeside", unfollowed := true, recurses := true, apart := false }
def FnExactBesideSaid : Prop := fnExactBesideRow.holds Try.pinned (OpenSpec.ofChange fnExactBesideSpec)

/-- ITS FALSE NEIGHBOUR: 'it returns false'. Refute it at one input. -/
def fnExactBesideWrong : ChangeSpec := { name := "fnExactBeside", fn := fun _ => fun
  | [d1, d2, d3] => { results := [.lit (.bool false)], args := [d1, d2, d3] }
  | _ => none }
def FnExactBesideWrongFalsely : Prop := fnExactBesideRow.holds Try.pinned (OpenSpec.ofChange fnExactBesideWrong)

/- THE SECOND FORM. 'bulk': how many values and letters a reading holds, each counted each time it is reached (what is shared counts as often as it is met; a slice's spare places count too). A statement '..UptoSaid' is the law's where the arguments, and the package variables that the reading takes, are together of bulk at most 1048576: NARROWER than '..Said'. Prove '..Said' where nothing that the law and all that it calls make is longer than what came in: it says more and counts as full. Else prove '..UptoSaid'. A law counts once. -/
mutual
def uptoBulk {H : Type} : DataW H → Nat
  | .lit (.string bytes) => bytes.length + 1
  | .lit _ => 1
  | .nil => 1
  | .ptr d => uptoBulk d + 1
  | .slice elems spare => uptoBulkAll elems + uptoBulkAll spare + 1
  | .agg parts => uptoBulkAll parts + 1
  | .iface _ d => uptoBulk d + 1
  | .map entries => uptoBulkEntries entries + 1
  | .held _ => 1
def uptoBulkAll {H : Type} : List (DataW H) → Nat
  | [] => 0
  | d :: r => uptoBulk d + uptoBulkAll r
def uptoBulkEntries {H : Type} : List (Lit × DataW H) → Nat
  | [] => 0
  | x :: r => uptoBulkEntry x + uptoBulkEntries r
def uptoBulkEntry {H : Type} : Lit × DataW H → Nat
  | (.string bytes, d) => bytes.length + uptoBulk d + 1
  | (_, d) => uptoBulk d + 1
 end
def uptoSmall : (H : Type) → List (DataW H) → Bool := fun _ ds => decide (uptoBulkAll ds ≤ 1048576)
def OpenSpec.upto (s : _root_.Go.ChangeSpec) : _root_.Go.OpenSpec := { _root_.Go.OpenSpec.ofChange s with cond := some uptoSmall }

/-- 'laws.FnExactEntryBytes', WHERE WHAT IT READS IS OF BULK AT MOST 1048576: true; the input reads as it did. -/
def fnExactEntryBytesUptoRow : OpenClaim := { program := "yteaojpfofifmnaa", sum := "e328a5da09bed6aeeb38c07d9b41e416464248e44e82c673001e33c837e6fc7a", func := "loop.example/tablehouse/laws.FnExactEntryBytes", spec := "fnExactEntryBytes", unfollowed := true, recurses := true, apart := false, narrowed := true }
def FnExactEntryBytesUptoSaid : Prop := fnExactEntryBytesUptoRow.holds Try.pinned (OpenSpec.upto fnExactEntryBytesSpec)

/-- 'laws.FnEntryBytes', WHERE WHAT IT READS IS OF BULK AT MOST 1048576: true; the input reads as it did. -/
def fnEntryBytesUptoRow : OpenClaim := { program := "yteaojpfofifmnaa", sum := "e328a5da09bed6aeeb38c07d9b41e416464248e44e82c673001e33c837e6fc7a", func := "loop.example/tablehouse/laws.FnEntryBytes", spec := "fnEntryBytes", unfollowed := true, recurses := true, apart := false, narrowed := true }
def FnEntryBytesUptoSaid : Prop := fnEntryBytesUptoRow.holds Try.pinned (OpenSpec.upto fnEntryBytesSpec)

/-- 'laws.FnRoadsBytes', WHERE WHAT IT READS IS OF BULK AT MOST 1048576: true; the input reads as it did. -/
def fnRoadsBytesUptoRow : OpenClaim := { program := "yteaojpfofifmnaa", sum := "e328a5da09bed6aeeb38c07d9b41e416464248e44e82c673001e33c837e6fc7a", func := "loop.example/tablehouse/laws.FnRoadsBytes", spec := "fnRoadsBytes", unfollowed := true, recurses := true, apart := false, narrowed := true }
def FnRoadsBytesUptoSaid : Prop := fnRoadsBytesUptoRow.holds Try.pinned (OpenSpec.upto fnRoadsBytesSpec)

/-- 'laws.FnExactLogFrom', WHERE WHAT IT READS IS OF BULK AT MOST 1048576: true; the input reads as it did. -/
def fnExactLogFromUptoRow : OpenClaim := { program := "yteaojpfofifmnaa", sum := "e328a5da09bed6aeeb38c07d9b41e416464248e44e82c673001e33c837e6fc7a", func := "loop.example/tablehouse/laws.FnExactLogFrom", spec := "fnExactLogFrom", unfollowed := true, recurses := true, apart := false, narrowed := true }
def FnExactLogFromUptoSaid : Prop := fnExactLogFromUptoRow.holds Try.pinned (OpenSpec.upto fnExactLogFromSpec)

/-- 'laws.FnExactLogBehind', WHERE WHAT IT READS IS OF BULK AT MOST 1048576: true; the input reads as it did. -/
def fnExactLogBehindUptoRow : OpenClaim := { program := "yteaojpfofifmnaa", sum := "e328a5da09bed6aeeb38c07d9b41e416464248e44e82c673001e33c837e6fc7a", func := "loop.example/tablehouse/laws.FnExactLogBehind", spec := "fnExactLogBehind", unfollowed := true, recurses := true, apart := false, narrowed := true }
def FnExactLogBehindUptoSaid : Prop := fnExactLogBehindUptoRow.holds Try.pinned (OpenSpec.upto fnExactLogBehindSpec)

/-- 'laws.FnExactLogCut', WHERE WHAT IT READS IS OF BULK AT MOST 1048576: true; the input reads as it did. -/
def fnExactLogCutUptoRow : OpenClaim := { program := "yteaojpfofifmnaa", sum := "e328a5da09bed6aeeb38c07d9b41e416464248e44e82c673001e33c837e6fc7a", func := "loop.example/tablehouse/laws.FnExactLogCut", spec := "fnExactLogCut", unfollowed := true, recurses := true, apart := false, narrowed := true }
def FnExactLogCutUptoSaid : Prop := fnExactLogCutUptoRow.holds Try.pinned (OpenSpec.upto fnExactLogCutSpec)

/-- 'laws.FnExactFollowed', WHERE WHAT IT READS IS OF BULK AT MOST 1048576: true; the input reads as it did. -/
def fnExactFollowedUptoRow : OpenClaim := { program := "yteaojpfofifmnaa", sum := "e328a5da09bed6aeeb38c07d9b41e416464248e44e82c673001e33c837e6fc7a", func := "loop.example/tablehouse/laws.FnExactFollowed", spec := "fnExactFollowed", unfollowed := true, recurses := true, apart := false, narrowed := true }
def FnExactFollowedUptoSaid : Prop := fnExactFollowedUptoRow.holds Try.pinned (OpenSpec.upto fnExactFollowedSpec)

/-- 'laws.FnExactLogBytes', WHERE WHAT IT READS IS OF BULK AT MOST 1048576: true; the input reads as it did. -/
def fnExactLogBytesUptoRow : OpenClaim := { program := "yteaojpfofifmnaa", sum := "e328a5da09bed6aeeb38c07d9b41e416464248e44e82c673001e33c837e6fc7a", func := "loop.example/tablehouse/laws.FnExactLogBytes", spec := "fnExactLogBytes", unfollowed := true, recurses := true, apart := false, narrowed := true }
def FnExactLogBytesUptoSaid : Prop := fnExactLogBytesUptoRow.holds Try.pinned (OpenSpec.upto fnExactLogBytesSpec)

/-- 'laws.FnLogBytes', WHERE WHAT IT READS IS OF BULK AT MOST 1048576: true; the input reads as it did. -/
def fnLogBytesUptoRow : OpenClaim := { program := "yteaojpfofifmnaa", sum := "e328a5da09bed6aeeb38c07d9b41e416464248e44e82c673001e33c837e6fc7a", func := "loop.example/tablehouse/laws.FnLogBytes", spec := "fnLogBytes", unfollowed := true, recurses := true, apart := false, narrowed := true }
def FnLogBytesUptoSaid : Prop := fnLogBytesUptoRow.holds Try.pinned (OpenSpec.upto fnLogBytesSpec)

/-- 'laws.FnExactEntryFrom', WHERE WHAT IT READS IS OF BULK AT MOST 1048576: true; the input reads as it did. -/
def fnExactEntryFromUptoRow : OpenClaim := { program := "yteaojpfofifmnaa", sum := "e328a5da09bed6aeeb38c07d9b41e416464248e44e82c673001e33c837e6fc7a", func := "loop.example/tablehouse/laws.FnExactEntryFrom", spec := "fnExactEntryFrom", unfollowed := true, recurses := true, apart := false, narrowed := true }
def FnExactEntryFromUptoSaid : Prop := fnExactEntryFromUptoRow.holds Try.pinned (OpenSpec.upto fnExactEntryFromSpec)

/-- 'laws.FnExactHouseOk', WHERE WHAT IT READS IS OF BULK AT MOST 1048576: true; the input reads as it did. -/
def fnExactHouseOkUptoRow : OpenClaim := { program := "yteaojpfofifmnaa", sum := "e328a5da09bed6aeeb38c07d9b41e416464248e44e82c673001e33c837e6fc7a", func := "loop.example/tablehouse/laws.FnExactHouseOk", spec := "fnExactHouseOk", unfollowed := true, recurses := true, apart := false, narrowed := true }
def FnExactHouseOkUptoSaid : Prop := fnExactHouseOkUptoRow.holds Try.pinned (OpenSpec.upto fnExactHouseOkSpec)

/-- 'laws.FnExactBeside', WHERE WHAT IT READS IS OF BULK AT MOST 1048576: true; the input reads as it did. -/
def fnExactBesideUptoRow : OpenClaim := { program := "yteaojpfofifmnaa", sum := "e328a5da09bed6aeeb38c07d9b41e416464248e44e82c673001e33c837e6fc7a", func := "loop.example/tablehouse/laws.FnExactBeside", spec := "fnExactBeside", unfollowed := true, recurses := true, apart := false, narrowed := true }
def FnExactBesideUptoSaid : Prop := fnExactBesideUptoRow.holds Try.pinned (OpenSpec.upto fnExactBesideSpec)

end Rows
end Go.Proofs.Yteaojpfofifmnaa
