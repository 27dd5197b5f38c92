/-
  No cell of these rows narrows 'for every input' (looked for: loops, veiled, ifaces, maps, wideKeys, modest, calm, conditions, laid).
  DERIVED. THE GIVEN ROWS OF THIS SEAT. 12 by the template 'for every input the law returns true; each argument reads behind the call as it read before'; 0 by the template 'total and deterministic' (their statements: YtgchiepnodoohaaTotals.lean).
  GIVEN WITH THE SEED: the statements are not yours to turn. If you find one false, say at which input.
  Laid BY PROGRAM, IN A SANDBOX (cutbox-rows.mjs): the forced cells as the released guide's own fill.sh prints them over the translation a8a9adc74e2efd6b… (all of the seat's roots in one cut). By AI agents, Wed Nov 11 2026. No macro, syntax, notation, axiom, sorry.
-/
import Derived.Test.YtgchiepnodoohaaChecked
import GoSem.Claim
import GoSem.ClaimJoined
import GoSem.ClaimMapViews
import Derived.JoinedTies
import Derived.KernelRfl
namespace Go.Proofs.Ytgchiepnodoohaa
/- THE CELL 'sum', in the pinned program and in every row, IS THE sha256 OF THE DUMP (.gsa) THAT YtgchiepnodoohaaProg.lean LOADS. Nothing in Lean hashes anything: it is a label: what it is worth is what the hold of that sum in a sandbox is worth. -/
noncomputable def Try.pinned : Pinned := { name := "ytgchiepnodoohaa", sum := "a8a9adc74e2efd6beb6a1cbb2c5bc0422e88fc6a26b471d3b0f1ba05a1c7ed5c", checked := Try.checked }
namespace Rows
def none {H : Type} : Left H := { results := [], args := [] }

/-- 'laws.FnExactValidNet': WHATEVER THE INPUT: true; the input reads as it did. -/
def fnExactValidNetSpec : ChangeSpec := { name := "fnExactValidNet", fn := fun _ => fun
  | [d] => { results := [.lit (.bool true)], args := [d] }
  | _ => none }
def fnExactValidNetRow : OpenClaim := { program := "ytgchiepnodoohaa", sum := "a8a9adc74e2efd6beb6a1cbb2c5bc0422e88fc6a26b471d3b0f1ba05a1c7ed5c", func := "loop.example/g01366/laws.FnExactValidNet", spec := "fnExactValidNet", unfollowed := true, recurses := true, apart := false }
def FnExactValidNetSaid : Prop := fnExactValidNetRow.holds Try.pinned (OpenSpec.ofChange fnExactValidNetSpec)

/-- ITS FALSE NEIGHBOUR: 'it returns false'. Refute it at one input. -/
def fnExactValidNetWrong : ChangeSpec := { name := "fnExactValidNet", fn := fun _ => fun
  | [d] => { results := [.lit (.bool false)], args := [d] }
  | _ => none }
def FnExactValidNetWrongFalsely : Prop := fnExactValidNetRow.holds Try.pinned (OpenSpec.ofChange fnExactValidNetWrong)

/-- 'laws.FnExactSameNet': WHATEVER THE INPUT: true; the input reads as it did. -/
def fnExactSameNetSpec : ChangeSpec := { name := "fnExactSameNet", fn := fun _ => fun
  | [d1, d2] => { results := [.lit (.bool true)], args := [d1, d2] }
  | _ => none }
def fnExactSameNetRow : OpenClaim := { program := "ytgchiepnodoohaa", sum := "a8a9adc74e2efd6beb6a1cbb2c5bc0422e88fc6a26b471d3b0f1ba05a1c7ed5c", func := "loop.example/g01366/laws.FnExactSameNet", spec := "fnExactSameNet", apart := false }
def FnExactSameNetSaid : Prop := fnExactSameNetRow.holds Try.pinned (OpenSpec.ofChange fnExactSameNetSpec)

/-- ITS FALSE NEIGHBOUR: 'it returns false'. Refute it at one input. -/
def fnExactSameNetWrong : ChangeSpec := { name := "fnExactSameNet", fn := fun _ => fun
  | [d1, d2] => { results := [.lit (.bool false)], args := [d1, d2] }
  | _ => none }
def FnExactSameNetWrongFalsely : Prop := fnExactSameNetRow.holds Try.pinned (OpenSpec.ofChange fnExactSameNetWrong)

/-- 'laws.FnExactLanesFrom': WHATEVER THE INPUT: true; the input reads as it did. -/
def fnExactLanesFromSpec : ChangeSpec := { name := "fnExactLanesFrom", fn := fun _ => fun
  | [d1, d2] => { results := [.lit (.bool true)], args := [d1, d2] }
  | _ => none }
def fnExactLanesFromRow : OpenClaim := { program := "ytgchiepnodoohaa", sum := "a8a9adc74e2efd6beb6a1cbb2c5bc0422e88fc6a26b471d3b0f1ba05a1c7ed5c", func := "loop.example/g01366/laws.FnExactLanesFrom", spec := "fnExactLanesFrom", unfollowed := true, recurses := true, apart := false }
def FnExactLanesFromSaid : Prop := fnExactLanesFromRow.holds Try.pinned (OpenSpec.ofChange fnExactLanesFromSpec)

/-- ITS FALSE NEIGHBOUR: 'it returns false'. Refute it at one input. -/
def fnExactLanesFromWrong : ChangeSpec := { name := "fnExactLanesFrom", fn := fun _ => fun
  | [d1, d2] => { results := [.lit (.bool false)], args := [d1, d2] }
  | _ => none }
def FnExactLanesFromWrongFalsely : Prop := fnExactLanesFromRow.holds Try.pinned (OpenSpec.ofChange fnExactLanesFromWrong)

/-- 'laws.FnExactCanGo': WHATEVER THE INPUT: true; the input reads as it did. -/
def fnExactCanGoSpec : ChangeSpec := { name := "fnExactCanGo", fn := fun _ => fun
  | [d1, d2, d3] => { results := [.lit (.bool true)], args := [d1, d2, d3] }
  | _ => none }
def fnExactCanGoRow : OpenClaim := { program := "ytgchiepnodoohaa", sum := "a8a9adc74e2efd6beb6a1cbb2c5bc0422e88fc6a26b471d3b0f1ba05a1c7ed5c", func := "loop.example/g01366/laws.FnExactCanGo", spec := "fnExactCanGo", unfollowed := true, recurses := true, apart := false }
def FnExactCanGoSaid : Prop := fnExactCanGoRow.holds Try.pinned (OpenSpec.ofChange fnExactCanGoSpec)

/-- ITS FALSE NEIGHBOUR: 'it returns false'. Refute it at one input. -/
def fnExactCanGoWrong : ChangeSpec := { name := "fnExactCanGo", fn := fun _ => fun
  | [d1, d2, d3] => { results := [.lit (.bool false)], args := [d1, d2, d3] }
  | _ => none }
def FnExactCanGoWrongFalsely : Prop := fnExactCanGoRow.holds Try.pinned (OpenSpec.ofChange fnExactCanGoWrong)

/-- 'laws.FnExactArrivalsAt': WHATEVER THE INPUT: true; the input reads as it did. -/
def fnExactArrivalsAtSpec : ChangeSpec := { name := "fnExactArrivalsAt", fn := fun _ => fun
  | [d1, d2, d3] => { results := [.lit (.bool true)], args := [d1, d2, d3] }
  | _ => none }
def fnExactArrivalsAtRow : OpenClaim := { program := "ytgchiepnodoohaa", sum := "a8a9adc74e2efd6beb6a1cbb2c5bc0422e88fc6a26b471d3b0f1ba05a1c7ed5c", func := "loop.example/g01366/laws.FnExactArrivalsAt", spec := "fnExactArrivalsAt", unfollowed := true, recurses := true, apart := false }
def FnExactArrivalsAtSaid : Prop := fnExactArrivalsAtRow.holds Try.pinned (OpenSpec.ofChange fnExactArrivalsAtSpec)

/-- ITS FALSE NEIGHBOUR: 'it returns false'. Refute it at one input. -/
def fnExactArrivalsAtWrong : ChangeSpec := { name := "fnExactArrivalsAt", fn := fun _ => fun
  | [d1, d2, d3] => { results := [.lit (.bool false)], args := [d1, d2, d3] }
  | _ => none }
def FnExactArrivalsAtWrongFalsely : Prop := fnExactArrivalsAtRow.holds Try.pinned (OpenSpec.ofChange fnExactArrivalsAtWrong)

/-- 'laws.FnExactCheckScans': WHATEVER THE INPUT: true; the input reads as it did. -/
def fnExactCheckScansSpec : ChangeSpec := { name := "fnExactCheckScans", fn := fun _ => fun
  | [d1, d2] => { results := [.lit (.bool true)], args := [d1, d2] }
  | _ => none }
def fnExactCheckScansRow : OpenClaim := { program := "ytgchiepnodoohaa", sum := "a8a9adc74e2efd6beb6a1cbb2c5bc0422e88fc6a26b471d3b0f1ba05a1c7ed5c", func := "loop.example/g01366/laws.FnExactCheckScans", spec := "fnExactCheckScans", unfollowed := true, recurses := true, apart := false }
def FnExactCheckScansSaid : Prop := fnExactCheckScansRow.holds Try.pinned (OpenSpec.ofChange fnExactCheckScansSpec)

/-- ITS FALSE NEIGHBOUR: 'it returns false'. Refute it at one input. -/
def fnExactCheckScansWrong : ChangeSpec := { name := "fnExactCheckScans", fn := fun _ => fun
  | [d1, d2] => { results := [.lit (.bool false)], args := [d1, d2] }
  | _ => none }
def FnExactCheckScansWrongFalsely : Prop := fnExactCheckScansRow.holds Try.pinned (OpenSpec.ofChange fnExactCheckScansWrong)

/-- 'laws.FnExactEarliestAt': WHATEVER THE INPUT: true; the input reads as it did. -/
def fnExactEarliestAtSpec : ChangeSpec := { name := "fnExactEarliestAt", fn := fun _ => fun
  | [d1, d2] => { results := [.lit (.bool true)], args := [d1, d2] }
  | _ => none }
def fnExactEarliestAtRow : OpenClaim := { program := "ytgchiepnodoohaa", sum := "a8a9adc74e2efd6beb6a1cbb2c5bc0422e88fc6a26b471d3b0f1ba05a1c7ed5c", func := "loop.example/g01366/laws.FnExactEarliestAt", spec := "fnExactEarliestAt", unfollowed := true, recurses := true, apart := false }
def FnExactEarliestAtSaid : Prop := fnExactEarliestAtRow.holds Try.pinned (OpenSpec.ofChange fnExactEarliestAtSpec)

/-- ITS FALSE NEIGHBOUR: 'it returns false'. Refute it at one input. -/
def fnExactEarliestAtWrong : ChangeSpec := { name := "fnExactEarliestAt", fn := fun _ => fun
  | [d1, d2] => { results := [.lit (.bool false)], args := [d1, d2] }
  | _ => none }
def FnExactEarliestAtWrongFalsely : Prop := fnExactEarliestAtRow.holds Try.pinned (OpenSpec.ofChange fnExactEarliestAtWrong)

/-- 'laws.FnExactRouteTimes': WHATEVER THE INPUT: true; the input reads as it did. -/
def fnExactRouteTimesSpec : ChangeSpec := { name := "fnExactRouteTimes", fn := fun _ => fun
  | [d1, d2, d3] => { results := [.lit (.bool true)], args := [d1, d2, d3] }
  | _ => none }
def fnExactRouteTimesRow : OpenClaim := { program := "ytgchiepnodoohaa", sum := "a8a9adc74e2efd6beb6a1cbb2c5bc0422e88fc6a26b471d3b0f1ba05a1c7ed5c", func := "loop.example/g01366/laws.FnExactRouteTimes", spec := "fnExactRouteTimes", unfollowed := true, recurses := true, apart := false }
def FnExactRouteTimesSaid : Prop := fnExactRouteTimesRow.holds Try.pinned (OpenSpec.ofChange fnExactRouteTimesSpec)

/-- ITS FALSE NEIGHBOUR: 'it returns false'. Refute it at one input. -/
def fnExactRouteTimesWrong : ChangeSpec := { name := "fnExactRouteTimes", fn := fun _ => fun
  | [d1, d2, d3] => { results := [.lit (.bool false)], args := [d1, d2, d3] }
  | _ => none }
def FnExactRouteTimesWrongFalsely : Prop := fnExactRouteTimesRow.holds Try.pinned (OpenSpec.ofChange fnExactRouteTimesWrong)

/-- 'laws.FnExactFirstBadScan': WHATEVER THE INPUT: true; the input reads as it did. -/
def fnExactFirstBadScanSpec : ChangeSpec := { name := "fnExactFirstBadScan", fn := fun _ => fun
  | [d1, d2] => { results := [.lit (.bool true)], args := [d1, d2] }
  | _ => none }
def fnExactFirstBadScanRow : OpenClaim := { program := "ytgchiepnodoohaa", sum := "a8a9adc74e2efd6beb6a1cbb2c5bc0422e88fc6a26b471d3b0f1ba05a1c7ed5c", func := "loop.example/g01366/laws.FnExactFirstBadScan", spec := "fnExactFirstBadScan", unfollowed := true, recurses := true, apart := false }
def FnExactFirstBadScanSaid : Prop := fnExactFirstBadScanRow.holds Try.pinned (OpenSpec.ofChange fnExactFirstBadScanSpec)

/-- ITS FALSE NEIGHBOUR: 'it returns false'. Refute it at one input. -/
def fnExactFirstBadScanWrong : ChangeSpec := { name := "fnExactFirstBadScan", fn := fun _ => fun
  | [d1, d2] => { results := [.lit (.bool false)], args := [d1, d2] }
  | _ => none }
def FnExactFirstBadScanWrongFalsely : Prop := fnExactFirstBadScanRow.holds Try.pinned (OpenSpec.ofChange fnExactFirstBadScanWrong)

/-- 'laws.FnExactMustPass': WHATEVER THE INPUT: true; the input reads as it did. -/
def fnExactMustPassSpec : ChangeSpec := { name := "fnExactMustPass", fn := fun _ => fun
  | [d1, d2, d3] => { results := [.lit (.bool true)], args := [d1, d2, d3] }
  | _ => none }
def fnExactMustPassRow : OpenClaim := { program := "ytgchiepnodoohaa", sum := "a8a9adc74e2efd6beb6a1cbb2c5bc0422e88fc6a26b471d3b0f1ba05a1c7ed5c", func := "loop.example/g01366/laws.FnExactMustPass", spec := "fnExactMustPass", unfollowed := true, recurses := true, apart := false }
def FnExactMustPassSaid : Prop := fnExactMustPassRow.holds Try.pinned (OpenSpec.ofChange fnExactMustPassSpec)

/-- ITS FALSE NEIGHBOUR: 'it returns false'. Refute it at one input. -/
def fnExactMustPassWrong : ChangeSpec := { name := "fnExactMustPass", fn := fun _ => fun
  | [d1, d2, d3] => { results := [.lit (.bool false)], args := [d1, d2, d3] }
  | _ => none }
def FnExactMustPassWrongFalsely : Prop := fnExactMustPassRow.holds Try.pinned (OpenSpec.ofChange fnExactMustPassWrong)

/-- 'laws.FnExactWhereAt': WHATEVER THE INPUT: true; the input reads as it did. -/
def fnExactWhereAtSpec : ChangeSpec := { name := "fnExactWhereAt", fn := fun _ => fun
  | [d1, d2, d3] => { results := [.lit (.bool true)], args := [d1, d2, d3] }
  | _ => none }
def fnExactWhereAtRow : OpenClaim := { program := "ytgchiepnodoohaa", sum := "a8a9adc74e2efd6beb6a1cbb2c5bc0422e88fc6a26b471d3b0f1ba05a1c7ed5c", func := "loop.example/g01366/laws.FnExactWhereAt", spec := "fnExactWhereAt", unfollowed := true, recurses := true, apart := false }
def FnExactWhereAtSaid : Prop := fnExactWhereAtRow.holds Try.pinned (OpenSpec.ofChange fnExactWhereAtSpec)

/-- ITS FALSE NEIGHBOUR: 'it returns false'. Refute it at one input. -/
def fnExactWhereAtWrong : ChangeSpec := { name := "fnExactWhereAt", fn := fun _ => fun
  | [d1, d2, d3] => { results := [.lit (.bool false)], args := [d1, d2, d3] }
  | _ => none }
def FnExactWhereAtWrongFalsely : Prop := fnExactWhereAtRow.holds Try.pinned (OpenSpec.ofChange fnExactWhereAtWrong)

/-- 'laws.FnExactIsLate': WHATEVER THE INPUT: true; the input reads as it did. -/
def fnExactIsLateSpec : ChangeSpec := { name := "fnExactIsLate", fn := fun _ => fun
  | [d1, d2, d3, d4] => { results := [.lit (.bool true)], args := [d1, d2, d3, d4] }
  | _ => none }
def fnExactIsLateRow : OpenClaim := { program := "ytgchiepnodoohaa", sum := "a8a9adc74e2efd6beb6a1cbb2c5bc0422e88fc6a26b471d3b0f1ba05a1c7ed5c", func := "loop.example/g01366/laws.FnExactIsLate", spec := "fnExactIsLate", unfollowed := true, recurses := true, apart := false }
def FnExactIsLateSaid : Prop := fnExactIsLateRow.holds Try.pinned (OpenSpec.ofChange fnExactIsLateSpec)

/-- ITS FALSE NEIGHBOUR: 'it returns false'. Refute it at one input. -/
def fnExactIsLateWrong : ChangeSpec := { name := "fnExactIsLate", fn := fun _ => fun
  | [d1, d2, d3, d4] => { results := [.lit (.bool false)], args := [d1, d2, d3, d4] }
  | _ => none }
def FnExactIsLateWrongFalsely : Prop := fnExactIsLateRow.holds Try.pinned (OpenSpec.ofChange fnExactIsLateWrong)

/- THE SECOND FORM. 'bulk': how many values and letters a reading holds, each counted each time it is reached (what is shared counts as often as it is met; a slice's spare places count too). A statement '..UptoSaid' is the law's where the arguments, and the package variables that the reading takes, are together of bulk at most 1048576: NARROWER than '..Said'. Prove '..Said' where nothing that the law and all that it calls make is longer than what came in: it says more and counts as full. Else prove '..UptoSaid'. A law counts once. -/
mutual
def uptoBulk {H : Type} : DataW H → Nat
  | .lit (.string bytes) => bytes.length + 1
  | .lit _ => 1
  | .nil => 1
  | .ptr d => uptoBulk d + 1
  | .slice elems spare => uptoBulkAll elems + uptoBulkAll spare + 1
  | .agg parts => uptoBulkAll parts + 1
  | .iface _ d => uptoBulk d + 1
  | .map entries => uptoBulkEntries entries + 1
  | .held _ => 1
def uptoBulkAll {H : Type} : List (DataW H) → Nat
  | [] => 0
  | d :: r => uptoBulk d + uptoBulkAll r
def uptoBulkEntries {H : Type} : List (Lit × DataW H) → Nat
  | [] => 0
  | x :: r => uptoBulkEntry x + uptoBulkEntries r
def uptoBulkEntry {H : Type} : Lit × DataW H → Nat
  | (.string bytes, d) => bytes.length + uptoBulk d + 1
  | (_, d) => uptoBulk d + 1
 end
def uptoSmall : (H : Type) → List (DataW H) → Bool := fun _ ds => decide (uptoBulkAll ds ≤ 1048576)
def OpenSpec.upto (s : _root_.Go.ChangeSpec) : _root_.Go.OpenSpec := { _root_.Go.OpenSpec.ofChange s with cond := some uptoSmall }

/-- 'laws.FnExactValidNet', WHERE WHAT IT READS IS OF BULK AT MOST 1048576: true; the input reads as it did. -/
def fnExactValidNetUptoRow : OpenClaim := { program := "ytgchiepnodoohaa", sum := "a8a9adc74e2efd6beb6a1cbb2c5bc0422e88fc6a26b471d3b0f1ba05a1c7ed5c", func := "loop.example/g01366/laws.FnExactValidNet", spec := "fnExactValidNet", unfollowed := true, recurses := true, apart := false, narrowed := true }
def FnExactValidNetUptoSaid : Prop := fnExactValidNetUptoRow.holds Try.pinned (OpenSpec.upto fnExactValidNetSpec)

/-- 'laws.FnExactSameNet', WHERE WHAT IT READS IS OF BULK AT MOST 1048576: true; the input reads as it did. -/
def fnExactSameNetUptoRow : OpenClaim := { program := "ytgchiepnodoohaa", sum := "a8a9adc74e2efd6beb6a1cbb2c5bc0422e88fc6a26b471d3b0f1ba05a1c7ed5c", func := "loop.example/g01366/laws.FnExactSameNet", spec := "fnExactSameNet", apart := false, narrowed := true }
def FnExactSameNetUptoSaid : Prop := fnExactSameNetUptoRow.holds Try.pinned (OpenSpec.upto fnExactSameNetSpec)

/-- 'laws.FnExactLanesFrom', WHERE WHAT IT READS IS OF BULK AT MOST 1048576: true; the input reads as it did. -/
def fnExactLanesFromUptoRow : OpenClaim := { program := "ytgchiepnodoohaa", sum := "a8a9adc74e2efd6beb6a1cbb2c5bc0422e88fc6a26b471d3b0f1ba05a1c7ed5c", func := "loop.example/g01366/laws.FnExactLanesFrom", spec := "fnExactLanesFrom", unfollowed := true, recurses := true, apart := false, narrowed := true }
def FnExactLanesFromUptoSaid : Prop := fnExactLanesFromUptoRow.holds Try.pinned (OpenSpec.upto fnExactLanesFromSpec)

/-- 'laws.FnExactCanGo', WHERE WHAT IT READS IS OF BULK AT MOST 1048576: true; the input reads as it did. -/
def fnExactCanGoUptoRow : OpenClaim := { program := "ytgchiepnodoohaa", sum := "a8a9adc74e2efd6beb6a1cbb2c5bc0422e88fc6a26b471d3b0f1ba05a1c7ed5c", func := "loop.example/g01366/laws.FnExactCanGo", spec := "fnExactCanGo", unfollowed := true, recurses := true, apart := false, narrowed := true }
def FnExactCanGoUptoSaid : Prop := fnExactCanGoUptoRow.holds Try.pinned (OpenSpec.upto fnExactCanGoSpec)

/-- 'laws.FnExactArrivalsAt', WHERE WHAT IT READS IS OF BULK AT MOST 1048576: true; the input reads as it did. -/
def fnExactArrivalsAtUptoRow : OpenClaim := { program := "ytgchiepnodoohaa", sum := "a8a9adc74e2efd6beb6a1cbb2c5bc0422e88fc6a26b471d3b0f1ba05a1c7ed5c", func := "loop.example/g01366/laws.FnExactArrivalsAt", spec := "fnExactArrivalsAt", unfollowed := true, recurses := true, apart := false, narrowed := true }
def FnExactArrivalsAtUptoSaid : Prop := fnExactArrivalsAtUptoRow.holds Try.pinned (OpenSpec.upto fnExactArrivalsAtSpec)

/-- 'laws.FnExactCheckScans', WHERE WHAT IT READS IS OF BULK AT MOST 1048576: true; the input reads as it did. -/
def fnExactCheckScansUptoRow : OpenClaim := { program := "ytgchiepnodoohaa", sum := "a8a9adc74e2efd6beb6a1cbb2c5bc0422e88fc6a26b471d3b0f1ba05a1c7ed5c", func := "loop.example/g01366/laws.FnExactCheckScans", spec := "fnExactCheckScans", unfollowed := true, recurses := true, apart := false, narrowed := true }
def FnExactCheckScansUptoSaid : Prop := fnExactCheckScansUptoRow.holds Try.pinned (OpenSpec.upto fnExactCheckScansSpec)

/-- 'laws.FnExactEarliestAt', WHERE WHAT IT READS IS OF BULK AT MOST 1048576: true; the input reads as it did. -/
def fnExactEarliestAtUptoRow : OpenClaim := { program := "ytgchiepnodoohaa", sum := "a8a9adc74e2efd6beb6a1cbb2c5bc0422e88fc6a26b471d3b0f1ba05a1c7ed5c", func := "loop.example/g01366/laws.FnExactEarliestAt", spec := "fnExactEarliestAt", unfollowed := true, recurses := true, apart := false, narrowed := true }
def FnExactEarliestAtUptoSaid : Prop := fnExactEarliestAtUptoRow.holds Try.pinned (OpenSpec.upto fnExactEarliestAtSpec)

/-- 'laws.FnExactRouteTimes', WHERE WHAT IT READS IS OF BULK AT MOST 1048576: true; the input reads as it did. -/
def fnExactRouteTimesUptoRow : OpenClaim := { program := "ytgchiepnodoohaa", sum := "a8a9adc74e2efd6beb6a1cbb2c5bc0422e88fc6a26b471d3b0f1ba05a1c7ed5c", func := "loop.example/g01366/laws.FnExactRouteTimes", spec := "fnExactRouteTimes", unfollowed := true, recurses := true, apart := false, narrowed := true }
def FnExactRouteTimesUptoSaid : Prop := fnExactRouteTimesUptoRow.holds Try.pinned (OpenSpec.upto fnExactRouteTimesSpec)

/-- 'laws.FnExactFirstBadScan', WHERE WHAT IT READS IS OF BULK AT MOST 1048576: true; the input reads as it did. -/
def fnExactFirstBadScanUptoRow : OpenClaim := { program := "ytgchiepnodoohaa", sum := "a8a9adc74e2efd6beb6a1cbb2c5bc0422e88fc6a26b471d3b0f1ba05a1c7ed5c", func := "loop.example/g01366/laws.FnExactFirstBadScan", spec := "fnExactFirstBadScan", unfollowed := true, recurses := true, apart := false, narrowed := true }
def FnExactFirstBadScanUptoSaid : Prop := fnExactFirstBadScanUptoRow.holds Try.pinned (OpenSpec.upto fnExactFirstBadScanSpec)

/-- 'laws.FnExactMustPass', WHERE WHAT IT READS IS OF BULK AT MOST 1048576: true; the input reads as it did. -/
def fnExactMustPassUptoRow : OpenClaim := { program := "ytgchiepnodoohaa", sum := "a8a9adc74e2efd6beb6a1cbb2c5bc0422e88fc6a26b471d3b0f1ba05a1c7ed5c", func := "loop.example/g01366/laws.FnExactMustPass", spec := "fnExactMustPass", unfollowed := true, recurses := true, apart := false, narrowed := true }
def FnExactMustPassUptoSaid : Prop := fnExactMustPassUptoRow.holds Try.pinned (OpenSpec.upto fnExactMustPassSpec)

/-- 'laws.FnExactWhereAt', WHERE WHAT IT READS IS OF BULK AT MOST 1048576: true; the input reads as it did. -/
def fnExactWhereAtUptoRow : OpenClaim := { program := "ytgchiepnodoohaa", sum := "a8a9adc74e2efd6beb6a1cbb2c5bc0422e88fc6a26b471d3b0f1ba05a1c7ed5c", func := "loop.example/g01366/laws.FnExactWhereAt", spec := "fnExactWhereAt", unfollowed := true, recurses := true, apart := false, narrowed := true }
def FnExactWhereAtUptoSaid : Prop := fnExactWhereAtUptoRow.holds Try.pinned (OpenSpec.upto fnExactWhereAtSpec)

/-- 'laws.FnExactIsLate', WHERE WHAT IT READS IS OF BULK AT MOST 1048576: true; the input reads as it did. -/
def fnExactIsLateUptoRow : OpenClaim := { program := "ytgchiepnodoohaa", sum := "a8a9adc74e2efd6beb6a1cbb2c5bc0422e88fc6a26b471d3b0f1ba05a1c7ed5c", func := "loop.example/g01366/laws.FnExactIsLate", spec := "fnExactIsLate", unfollowed := true, recurses := true, apart := false, narrowed := true }
def FnExactIsLateUptoSaid : Prop := fnExactIsLateUptoRow.holds Try.pinned (OpenSpec.upto fnExactIsLateSpec)

end Rows
end Go.Proofs.Ytgchiepnodoohaa
