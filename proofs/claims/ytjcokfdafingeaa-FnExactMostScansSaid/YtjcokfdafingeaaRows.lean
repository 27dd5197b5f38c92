/-
  No cell of these rows narrows 'for every input' (looked for: loops, veiled, ifaces, maps, wideKeys, modest, calm, conditions, laid).
  DERIVED. THE GIVEN ROWS OF THIS SEAT. 10 by the template 'for every input the law returns true; each argument reads behind the call as it read before'; 0 by the template 'total and deterministic' (their statements: YtjcokfdafingeaaTotals.lean).
  GIVEN WITH THE SEED: the statements are not yours to turn. If you find one false, say at which input.
  Laid BY PROGRAM, IN A SANDBOX (cutbox-rows.mjs): the forced cells as the released guide's own fill.sh prints them over the translation a4ac3c7813b8b6f4… (all of the seat's roots in one cut). By AI agents, Wed Nov 11 2026. No macro, syntax, notation, axiom, sorry.
-/
import Derived.Test.YtjcokfdafingeaaChecked
import GoSem.Claim
import GoSem.ClaimJoined
import GoSem.ClaimMapViews
import Derived.JoinedTies
import Derived.KernelRfl
namespace Go.Proofs.Ytjcokfdafingeaa
/- THE CELL 'sum', in the pinned program and in every row, IS THE sha256 OF THE DUMP (.gsa) THAT YtjcokfdafingeaaProg.lean LOADS. Nothing in Lean hashes anything: it is a label: what it is worth is what the hold of that sum in a sandbox is worth. -/
noncomputable def Try.pinned : Pinned := { name := "ytjcokfdafingeaa", sum := "a4ac3c7813b8b6f4c18ce39e9bd05054de2d114117146b2dcf77147bc0ac064c", checked := Try.checked }
namespace Rows
def none {H : Type} : Left H := { results := [], args := [] }

/-- 'laws.FnExactValidNet': WHATEVER THE INPUT: true; the input reads as it did. -/
def fnExactValidNetSpec : ChangeSpec := { name := "fnExactValidNet", fn := fun _ => fun
  | [d] => { results := [.lit (.bool true)], args := [d] }
  | _ => none }
def fnExactValidNetRow : OpenClaim := { program := "ytjcokfdafingeaa", sum := "a4ac3c7813b8b6f4c18ce39e9bd05054de2d114117146b2dcf77147bc0ac064c", func := "loop.example/g01366/laws.FnExactValidNet", spec := "fnExactValidNet", unfollowed := true, recurses := true, apart := false }
def FnExactValidNetSaid : Prop := fnExactValidNetRow.holds Try.pinned (OpenSpec.ofChange fnExactValidNetSpec)

/-- ITS FALSE NEIGHBOUR: 'it returns false'. Refute it at one input. -/
def fnExactValidNetWrong : ChangeSpec := { name := "fnExactValidNet", fn := fun _ => fun
  | [d] => { results := [.lit (.bool false)], args := [d] }
  | _ => none }
def FnExactValidNetWrongFalsely : Prop := fnExactValidNetRow.holds Try.pinned (OpenSpec.ofChange fnExactValidNetWrong)

/-- 'laws.FnExactSameNet': WHATEVER THE INPUT: true; the input reads as it did. -/
def fnExactSameNetSpec : ChangeSpec := { name := "fnExactSameNet", fn := fun _ => fun
  | [d1, d2] => { results := [.lit (.bool true)], args := [d1, d2] }
  | _ => none }
def fnExactSameNetRow : OpenClaim := { program := "ytjcokfdafingeaa", sum := "a4ac3c7813b8b6f4c18ce39e9bd05054de2d114117146b2dcf77147bc0ac064c", func := "loop.example/g01366/laws.FnExactSameNet", spec := "fnExactSameNet", apart := false }
def FnExactSameNetSaid : Prop := fnExactSameNetRow.holds Try.pinned (OpenSpec.ofChange fnExactSameNetSpec)

/-- ITS FALSE NEIGHBOUR: 'it returns false'. Refute it at one input. -/
def fnExactSameNetWrong : ChangeSpec := { name := "fnExactSameNet", fn := fun _ => fun
  | [d1, d2] => { results := [.lit (.bool false)], args := [d1, d2] }
  | _ => none }
def FnExactSameNetWrongFalsely : Prop := fnExactSameNetRow.holds Try.pinned (OpenSpec.ofChange fnExactSameNetWrong)

/-- 'laws.FnExactLanesFrom': WHATEVER THE INPUT: true; the input reads as it did. -/
def fnExactLanesFromSpec : ChangeSpec := { name := "fnExactLanesFrom", fn := fun _ => fun
  | [d1, d2] => { results := [.lit (.bool true)], args := [d1, d2] }
  | _ => none }
def fnExactLanesFromRow : OpenClaim := { program := "ytjcokfdafingeaa", sum := "a4ac3c7813b8b6f4c18ce39e9bd05054de2d114117146b2dcf77147bc0ac064c", func := "loop.example/g01366/laws.FnExactLanesFrom", spec := "fnExactLanesFrom", unfollowed := true, recurses := true, apart := false }
def FnExactLanesFromSaid : Prop := fnExactLanesFromRow.holds Try.pinned (OpenSpec.ofChange fnExactLanesFromSpec)

/-- ITS FALSE NEIGHBOUR: 'it returns false'. Refute it at one input. -/
def fnExactLanesFromWrong : ChangeSpec := { name := "fnExactLanesFrom", fn := fun _ => fun
  | [d1, d2] => { results := [.lit (.bool false)], args := [d1, d2] }
  | _ => none }
def FnExactLanesFromWrongFalsely : Prop := fnExactLanesFromRow.holds Try.pinned (OpenSpec.ofChange fnExactLanesFromWrong)

/-- 'laws.FnExactCanGo': WHATEVER THE INPUT: true; the input reads as it did. -/
def fnExactCanGoSpec : ChangeSpec := { name := "fnExactCanGo", fn := fun _ => fun
  | [d1, d2, d3] => { results := [.lit (.bool true)], args := [d1, d2, d3] }
  | _ => none }
def fnExactCanGoRow : OpenClaim := { program := "ytjcokfdafingeaa", sum := "a4ac3c7813b8b6f4c18ce39e9bd05054de2d114117146b2dcf77147bc0ac064c", func := "loop.example/g01366/laws.FnExactCanGo", spec := "fnExactCanGo", unfollowed := true, recurses := true, apart := false }
def FnExactCanGoSaid : Prop := fnExactCanGoRow.holds Try.pinned (OpenSpec.ofChange fnExactCanGoSpec)

/-- ITS FALSE NEIGHBOUR: 'it returns false'. Refute it at one input. -/
def fnExactCanGoWrong : ChangeSpec := { name := "fnExactCanGo", fn := fun _ => fun
  | [d1, d2, d3] => { results := [.lit (.bool false)], args := [d1, d2, d3] }
  | _ => none }
def FnExactCanGoWrongFalsely : Prop := fnExactCanGoRow.holds Try.pinned (OpenSpec.ofChange fnExactCanGoWrong)

/-- 'laws.FnExactCheckScans': WHATEVER THE INPUT: true; the input reads as it did. -/
def fnExactCheckScansSpec : ChangeSpec := { name := "fnExactCheckScans", fn := fun _ => fun
  | [d1, d2] => { results := [.lit (.bool true)], args := [d1, d2] }
  | _ => none }
def fnExactCheckScansRow : OpenClaim := { program := "ytjcokfdafingeaa", sum := "a4ac3c7813b8b6f4c18ce39e9bd05054de2d114117146b2dcf77147bc0ac064c", func := "loop.example/g01366/laws.FnExactCheckScans", spec := "fnExactCheckScans", unfollowed := true, recurses := true, apart := false }
def FnExactCheckScansSaid : Prop := fnExactCheckScansRow.holds Try.pinned (OpenSpec.ofChange fnExactCheckScansSpec)

/-- ITS FALSE NEIGHBOUR: 'it returns false'. Refute it at one input. -/
def fnExactCheckScansWrong : ChangeSpec := { name := "fnExactCheckScans", fn := fun _ => fun
  | [d1, d2] => { results := [.lit (.bool false)], args := [d1, d2] }
  | _ => none }
def FnExactCheckScansWrongFalsely : Prop := fnExactCheckScansRow.holds Try.pinned (OpenSpec.ofChange fnExactCheckScansWrong)

/-- 'laws.FnExactFirstBadScan': WHATEVER THE INPUT: true; the input reads as it did. -/
def fnExactFirstBadScanSpec : ChangeSpec := { name := "fnExactFirstBadScan", fn := fun _ => fun
  | [d1, d2] => { results := [.lit (.bool true)], args := [d1, d2] }
  | _ => none }
def fnExactFirstBadScanRow : OpenClaim := { program := "ytjcokfdafingeaa", sum := "a4ac3c7813b8b6f4c18ce39e9bd05054de2d114117146b2dcf77147bc0ac064c", func := "loop.example/g01366/laws.FnExactFirstBadScan", spec := "fnExactFirstBadScan", unfollowed := true, recurses := true, apart := false }
def FnExactFirstBadScanSaid : Prop := fnExactFirstBadScanRow.holds Try.pinned (OpenSpec.ofChange fnExactFirstBadScanSpec)

/-- ITS FALSE NEIGHBOUR: 'it returns false'. Refute it at one input. -/
def fnExactFirstBadScanWrong : ChangeSpec := { name := "fnExactFirstBadScan", fn := fun _ => fun
  | [d1, d2] => { results := [.lit (.bool false)], args := [d1, d2] }
  | _ => none }
def FnExactFirstBadScanWrongFalsely : Prop := fnExactFirstBadScanRow.holds Try.pinned (OpenSpec.ofChange fnExactFirstBadScanWrong)

/-- 'laws.FnExactFalseScans': WHATEVER THE INPUT: true; the input reads as it did. -/
def fnExactFalseScansSpec : ChangeSpec := { name := "fnExactFalseScans", fn := fun _ => fun
  | [d1, d2] => { results := [.lit (.bool true)], args := [d1, d2] }
  | _ => none }
def fnExactFalseScansRow : OpenClaim := { program := "ytjcokfdafingeaa", sum := "a4ac3c7813b8b6f4c18ce39e9bd05054de2d114117146b2dcf77147bc0ac064c", func := "loop.example/g01366/laws.FnExactFalseScans", spec := "fnExactFalseScans", unfollowed := true, recurses := true, apart := false }
def FnExactFalseScansSaid : Prop := fnExactFalseScansRow.holds Try.pinned (OpenSpec.ofChange fnExactFalseScansSpec)

/-- ITS FALSE NEIGHBOUR: 'it returns false'. Refute it at one input. -/
def fnExactFalseScansWrong : ChangeSpec := { name := "fnExactFalseScans", fn := fun _ => fun
  | [d1, d2] => { results := [.lit (.bool false)], args := [d1, d2] }
  | _ => none }
def FnExactFalseScansWrongFalsely : Prop := fnExactFalseScansRow.holds Try.pinned (OpenSpec.ofChange fnExactFalseScansWrong)

/-- 'laws.FnExactMostScans': WHATEVER THE INPUT: true; the input reads as it did. -/
def fnExactMostScansSpec : ChangeSpec := { name := "fnExactMostScans", fn := fun _ => fun
  | [d1, d2] => { results := [.lit (.bool true)], args := [d1, d2] }
  | _ => none }
def fnExactMostScansRow : OpenClaim := { program := "ytjcokfdafingeaa", sum := "a4ac3c7813b8b6f4c18ce39e9bd05054de2d114117146b2dcf77147bc0ac064c", func := "loop.example/g01366/laws.FnExactMostScans", spec := "fnExactMostScans", unfollowed := true, recurses := true, apart := false }
def FnExactMostScansSaid : Prop := fnExactMostScansRow.holds Try.pinned (OpenSpec.ofChange fnExactMostScansSpec)

/-- ITS FALSE NEIGHBOUR: 'it returns false'. Refute it at one input. -/
def fnExactMostScansWrong : ChangeSpec := { name := "fnExactMostScans", fn := fun _ => fun
  | [d1, d2] => { results := [.lit (.bool false)], args := [d1, d2] }
  | _ => none }
def FnExactMostScansWrongFalsely : Prop := fnExactMostScansRow.holds Try.pinned (OpenSpec.ofChange fnExactMostScansWrong)

/-- 'laws.FnExactFewestLanes': WHATEVER THE INPUT: true; the input reads as it did. -/
def fnExactFewestLanesSpec : ChangeSpec := { name := "fnExactFewestLanes", fn := fun _ => fun
  | [d1, d2, d3] => { results := [.lit (.bool true)], args := [d1, d2, d3] }
  | _ => none }
def fnExactFewestLanesRow : OpenClaim := { program := "ytjcokfdafingeaa", sum := "a4ac3c7813b8b6f4c18ce39e9bd05054de2d114117146b2dcf77147bc0ac064c", func := "loop.example/g01366/laws.FnExactFewestLanes", spec := "fnExactFewestLanes", unfollowed := true, recurses := true, apart := false }
def FnExactFewestLanesSaid : Prop := fnExactFewestLanesRow.holds Try.pinned (OpenSpec.ofChange fnExactFewestLanesSpec)

/-- ITS FALSE NEIGHBOUR: 'it returns false'. Refute it at one input. -/
def fnExactFewestLanesWrong : ChangeSpec := { name := "fnExactFewestLanes", fn := fun _ => fun
  | [d1, d2, d3] => { results := [.lit (.bool false)], args := [d1, d2, d3] }
  | _ => none }
def FnExactFewestLanesWrongFalsely : Prop := fnExactFewestLanesRow.holds Try.pinned (OpenSpec.ofChange fnExactFewestLanesWrong)

/-- 'laws.FnExactSortScans': WHATEVER THE INPUT: true; the input reads as it did. -/
def fnExactSortScansSpec : ChangeSpec := { name := "fnExactSortScans", fn := fun _ => fun
  | [d1, d2] => { results := [.lit (.bool true)], args := [d1, d2] }
  | _ => none }
def fnExactSortScansRow : OpenClaim := { program := "ytjcokfdafingeaa", sum := "a4ac3c7813b8b6f4c18ce39e9bd05054de2d114117146b2dcf77147bc0ac064c", func := "loop.example/g01366/laws.FnExactSortScans", spec := "fnExactSortScans", unfollowed := true, recurses := true, apart := false }
def FnExactSortScansSaid : Prop := fnExactSortScansRow.holds Try.pinned (OpenSpec.ofChange fnExactSortScansSpec)

/-- ITS FALSE NEIGHBOUR: 'it returns false'. Refute it at one input. -/
def fnExactSortScansWrong : ChangeSpec := { name := "fnExactSortScans", fn := fun _ => fun
  | [d1, d2] => { results := [.lit (.bool false)], args := [d1, d2] }
  | _ => none }
def FnExactSortScansWrongFalsely : Prop := fnExactSortScansRow.holds Try.pinned (OpenSpec.ofChange fnExactSortScansWrong)

/- THE SECOND FORM. 'bulk': how many values and letters a reading holds, each counted each time it is reached (what is shared counts as often as it is met; a slice's spare places count too). A statement '..UptoSaid' is the law's where the arguments, and the package variables that the reading takes, are together of bulk at most 1048576: NARROWER than '..Said'. Prove '..Said' where nothing that the law and all that it calls make is longer than what came in: it says more and counts as full. Else prove '..UptoSaid'. A law counts once. -/
mutual
def uptoBulk {H : Type} : DataW H → Nat
  | .lit (.string bytes) => bytes.length + 1
  | .lit _ => 1
  | .nil => 1
  | .ptr d => uptoBulk d + 1
  | .slice elems spare => uptoBulkAll elems + uptoBulkAll spare + 1
  | .agg parts => uptoBulkAll parts + 1
  | .iface _ d => uptoBulk d + 1
  | .map entries => uptoBulkEntries entries + 1
  | .held _ => 1
def uptoBulkAll {H : Type} : List (DataW H) → Nat
  | [] => 0
  | d :: r => uptoBulk d + uptoBulkAll r
def uptoBulkEntries {H : Type} : List (Lit × DataW H) → Nat
  | [] => 0
  | x :: r => uptoBulkEntry x + uptoBulkEntries r
def uptoBulkEntry {H : Type} : Lit × DataW H → Nat
  | (.string bytes, d) => bytes.length + uptoBulk d + 1
  | (_, d) => uptoBulk d + 1
 end
def uptoSmall : (H : Type) → List (DataW H) → Bool := fun _ ds => decide (uptoBulkAll ds ≤ 1048576)
def OpenSpec.upto (s : _root_.Go.ChangeSpec) : _root_.Go.OpenSpec := { _root_.Go.OpenSpec.ofChange s with cond := some uptoSmall }

/-- 'laws.FnExactValidNet', WHERE WHAT IT READS IS OF BULK AT MOST 1048576: true; the input reads as it did. -/
def fnExactValidNetUptoRow : OpenClaim := { program := "ytjcokfdafingeaa", sum := "a4ac3c7813b8b6f4c18ce39e9bd05054de2d114117146b2dcf77147bc0ac064c", func := "loop.example/g01366/laws.FnExactValidNet", spec := "fnExactValidNet", unfollowed := true, recurses := true, apart := false, narrowed := true }
def FnExactValidNetUptoSaid : Prop := fnExactValidNetUptoRow.holds Try.pinned (OpenSpec.upto fnExactValidNetSpec)

/-- 'laws.FnExactSameNet', WHERE WHAT IT READS IS OF BULK AT MOST 1048576: true; the input reads as it did. -/
def fnExactSameNetUptoRow : OpenClaim := { program := "ytjcokfdafingeaa", sum := "a4ac3c7813b8b6f4c18ce39e9bd05054de2d114117146b2dcf77147bc0ac064c", func := "loop.example/g01366/laws.FnExactSameNet", spec := "fnExactSameNet", apart := false, narrowed := true }
def FnExactSameNetUptoSaid : Prop := fnExactSameNetUptoRow.holds Try.pinned (OpenSpec.upto fnExactSameNetSpec)

/-- 'laws.FnExactLanesFrom', WHERE WHAT IT READS IS OF BULK AT MOST 1048576: true; the input reads as it did. -/
def fnExactLanesFromUptoRow : OpenClaim := { program := "ytjcokfdafingeaa", sum := "a4ac3c7813b8b6f4c18ce39e9bd05054de2d114117146b2dcf77147bc0ac064c", func := "loop.example/g01366/laws.FnExactLanesFrom", spec := "fnExactLanesFrom", unfollowed := true, recurses := true, apart := false, narrowed := true }
def FnExactLanesFromUptoSaid : Prop := fnExactLanesFromUptoRow.holds Try.pinned (OpenSpec.upto fnExactLanesFromSpec)

/-- 'laws.FnExactCanGo', WHERE WHAT IT READS IS OF BULK AT MOST 1048576: true; the input reads as it did. -/
def fnExactCanGoUptoRow : OpenClaim := { program := "ytjcokfdafingeaa", sum := "a4ac3c7813b8b6f4c18ce39e9bd05054de2d114117146b2dcf77147bc0ac064c", func := "loop.example/g01366/laws.FnExactCanGo", spec := "fnExactCanGo", unfollowed := true, recurses := true, apart := false, narrowed := true }
def FnExactCanGoUptoSaid : Prop := fnExactCanGoUptoRow.holds Try.pinned (OpenSpec.upto fnExactCanGoSpec)

/-- 'laws.FnExactCheckScans', WHERE WHAT IT READS IS OF BULK AT MOST 1048576: true; the input reads as it did. -/
def fnExactCheckScansUptoRow : OpenClaim := { program := "ytjcokfdafingeaa", sum := "a4ac3c7813b8b6f4c18ce39e9bd05054de2d114117146b2dcf77147bc0ac064c", func := "loop.example/g01366/laws.FnExactCheckScans", spec := "fnExactCheckScans", unfollowed := true, recurses := true, apart := false, narrowed := true }
def FnExactCheckScansUptoSaid : Prop := fnExactCheckScansUptoRow.holds Try.pinned (OpenSpec.upto fnExactCheckScansSpec)

/-- 'laws.FnExactFirstBadScan', WHERE WHAT IT READS IS OF BULK AT MOST 1048576: true; the input reads as it did. -/
def fnExactFirstBadScanUptoRow : OpenClaim := { program := "ytjcokfdafingeaa", sum := "a4ac3c7813b8b6f4c18ce39e9bd05054de2d114117146b2dcf77147bc0ac064c", func := "loop.example/g01366/laws.FnExactFirstBadScan", spec := "fnExactFirstBadScan", unfollowed := true, recurses := true, apart := false, narrowed := true }
def FnExactFirstBadScanUptoSaid : Prop := fnExactFirstBadScanUptoRow.holds Try.pinned (OpenSpec.upto fnExactFirstBadScanSpec)

/-- 'laws.FnExactFalseScans', WHERE WHAT IT READS IS OF BULK AT MOST 1048576: true; the input reads as it did. -/
def fnExactFalseScansUptoRow : OpenClaim := { program := "ytjcokfdafingeaa", sum := "a4ac3c7813b8b6f4c18ce39e9bd05054de2d114117146b2dcf77147bc0ac064c", func := "loop.example/g01366/laws.FnExactFalseScans", spec := "fnExactFalseScans", unfollowed := true, recurses := true, apart := false, narrowed := true }
def FnExactFalseScansUptoSaid : Prop := fnExactFalseScansUptoRow.holds Try.pinned (OpenSpec.upto fnExactFalseScansSpec)

/-- 'laws.FnExactMostScans', WHERE WHAT IT READS IS OF BULK AT MOST 1048576: true; the input reads as it did. -/
def fnExactMostScansUptoRow : OpenClaim := { program := "ytjcokfdafingeaa", sum := "a4ac3c7813b8b6f4c18ce39e9bd05054de2d114117146b2dcf77147bc0ac064c", func := "loop.example/g01366/laws.FnExactMostScans", spec := "fnExactMostScans", unfollowed := true, recurses := true, apart := false, narrowed := true }
def FnExactMostScansUptoSaid : Prop := fnExactMostScansUptoRow.holds Try.pinned (OpenSpec.upto fnExactMostScansSpec)

/-- 'laws.FnExactFewestLanes', WHERE WHAT IT READS IS OF BULK AT MOST 1048576: true; the input reads as it did. -/
def fnExactFewestLanesUptoRow : OpenClaim := { program := "ytjcokfdafingeaa", sum := "a4ac3c7813b8b6f4c18ce39e9bd05054de2d114117146b2dcf77147bc0ac064c", func := "loop.example/g01366/laws.FnExactFewestLanes", spec := "fnExactFewestLanes", unfollowed := true, recurses := true, apart := false, narrowed := true }
def FnExactFewestLanesUptoSaid : Prop := fnExactFewestLanesUptoRow.holds Try.pinned (OpenSpec.upto fnExactFewestLanesSpec)

/-- 'laws.FnExactSortScans', WHERE WHAT IT READS IS OF BULK AT MOST 1048576: true; the input reads as it did. -/
def fnExactSortScansUptoRow : OpenClaim := { program := "ytjcokfdafingeaa", sum := "a4ac3c7813b8b6f4c18ce39e9bd05054de2d114117146b2dcf77147bc0ac064c", func := "loop.example/g01366/laws.FnExactSortScans", spec := "fnExactSortScans", unfollowed := true, recurses := true, apart := false, narrowed := true }
def FnExactSortScansUptoSaid : Prop := fnExactSortScansUptoRow.holds Try.pinned (OpenSpec.upto fnExactSortScansSpec)

end Rows
end Go.Proofs.Ytjcokfdafingeaa
