/-
  No cell of these rows narrows 'for every input' (looked for: loops, veiled, ifaces, maps, wideKeys, modest, calm, conditions, laid).
  DERIVED. THE GIVEN ROWS OF THIS SEAT. 10 by the template 'for every input the law returns true; each argument reads behind the call as it read before'; 0 by the template 'total and deterministic' (their statements: YtennlgkacijnnaaTotals.lean).
  GIVEN WITH THE SEED: the statements are not yours to turn. If you find one false, say at which input.
  Laid BY PROGRAM, IN A SANDBOX (cutbox-rows.mjs): the forced cells as the released guide's own fill.sh prints them over the translation 1eab71903a8b831d… (all of the seat's roots in one cut). By AI agents, Wed Nov 11 2026. No macro, syntax, notation, axiom, sorry.
-/
import Derived.Test.YtennlgkacijnnaaChecked
import GoSem.Claim
import GoSem.ClaimJoined
import GoSem.ClaimMapViews
import Derived.JoinedTies
import Derived.KernelRfl
namespace Go.Proofs.Ytennlgkacijnnaa
/- THE CELL 'sum', in the pinned program and in every row, IS THE sha256 OF THE DUMP (.gsa) THAT YtennlgkacijnnaaProg.lean LOADS. Nothing in Lean hashes anything: it is a label: what it is worth is what the hold of that sum in a sandbox is worth. -/
noncomputable def Try.pinned : Pinned := { name := "ytennlgkacijnnaa", sum := "1eab71903a8b831d80ef528eb49aba7af43649b0748f846e1cd8f198101133e2", checked := Try.checked }
namespace Rows
def none {H : Type} : Left H := { results := [], args := [] }

/-- 'laws.FnExactValidOrders': WHATEVER THE INPUT: true; the input reads as it did. -/
def fnExactValidOrdersSpec : ChangeSpec := { name := "fnExactValidOrders", fn := fun _ => fun
  | [d] => { results := [.lit (.bool true)], args := [d] }
  | _ => none }
def fnExactValidOrdersRow : OpenClaim := { program := "ytennlgkacijnnaa", sum := "1eab71903a8b831d80ef528eb49aba7af43649b0748f846e1cd8f198101133e2", func := "loop.example/g01366/laws.FnExactValidOrders", spec := "fnExactValidOrders", unfollowed := true, recurses := true, apart := false }
def FnExactValidOrdersSaid : Prop := fnExactValidOrdersRow.holds Try.pinned (OpenSpec.ofChange fnExactValidOrdersSpec)

/-- ITS FALSE NEIGHBOUR: 'it returns false'. Refute it at one input. -/
def fnExactValidOrdersWrong : ChangeSpec := { name := "fnExactValidOrders", fn := fun _ => fun
  | [d] => { results := [.lit (.bool false)], args := [d] }
  | _ => none }
def FnExactValidOrdersWrongFalsely : Prop := fnExactValidOrdersRow.holds Try.pinned (OpenSpec.ofChange fnExactValidOrdersWrong)

/-- 'laws.FnExactLostBy': WHATEVER THE INPUT: true; the input reads as it did. -/
def fnExactLostBySpec : ChangeSpec := { name := "fnExactLostBy", fn := fun _ => fun
  | [d1, d2] => { results := [.lit (.bool true)], args := [d1, d2] }
  | _ => none }
def fnExactLostByRow : OpenClaim := { program := "ytennlgkacijnnaa", sum := "1eab71903a8b831d80ef528eb49aba7af43649b0748f846e1cd8f198101133e2", func := "loop.example/g01366/laws.FnExactLostBy", spec := "fnExactLostBy", unfollowed := true, recurses := true, apart := false }
def FnExactLostBySaid : Prop := fnExactLostByRow.holds Try.pinned (OpenSpec.ofChange fnExactLostBySpec)

/-- ITS FALSE NEIGHBOUR: 'it returns false'. Refute it at one input. -/
def fnExactLostByWrong : ChangeSpec := { name := "fnExactLostBy", fn := fun _ => fun
  | [d1, d2] => { results := [.lit (.bool false)], args := [d1, d2] }
  | _ => none }
def FnExactLostByWrongFalsely : Prop := fnExactLostByRow.holds Try.pinned (OpenSpec.ofChange fnExactLostByWrong)

/-- 'laws.FnExactWorthAt': WHATEVER THE INPUT: true; the input reads as it did. -/
def fnExactWorthAtSpec : ChangeSpec := { name := "fnExactWorthAt", fn := fun _ => fun
  | [d1, d2] => { results := [.lit (.bool true)], args := [d1, d2] }
  | _ => none }
def fnExactWorthAtRow : OpenClaim := { program := "ytennlgkacijnnaa", sum := "1eab71903a8b831d80ef528eb49aba7af43649b0748f846e1cd8f198101133e2", func := "loop.example/g01366/laws.FnExactWorthAt", spec := "fnExactWorthAt", unfollowed := true, recurses := true, apart := false }
def FnExactWorthAtSaid : Prop := fnExactWorthAtRow.holds Try.pinned (OpenSpec.ofChange fnExactWorthAtSpec)

/-- ITS FALSE NEIGHBOUR: 'it returns false'. Refute it at one input. -/
def fnExactWorthAtWrong : ChangeSpec := { name := "fnExactWorthAt", fn := fun _ => fun
  | [d1, d2] => { results := [.lit (.bool false)], args := [d1, d2] }
  | _ => none }
def FnExactWorthAtWrongFalsely : Prop := fnExactWorthAtRow.holds Try.pinned (OpenSpec.ofChange fnExactWorthAtWrong)

/-- 'laws.FnExactStillWith': WHATEVER THE INPUT: true; the input reads as it did. -/
def fnExactStillWithSpec : ChangeSpec := { name := "fnExactStillWith", fn := fun _ => fun
  | [d1, d2, d3, d4] => { results := [.lit (.bool true)], args := [d1, d2, d3, d4] }
  | _ => none }
def fnExactStillWithRow : OpenClaim := { program := "ytennlgkacijnnaa", sum := "1eab71903a8b831d80ef528eb49aba7af43649b0748f846e1cd8f198101133e2", func := "loop.example/g01366/laws.FnExactStillWith", spec := "fnExactStillWith", unfollowed := true, recurses := true, apart := false }
def FnExactStillWithSaid : Prop := fnExactStillWithRow.holds Try.pinned (OpenSpec.ofChange fnExactStillWithSpec)

/-- ITS FALSE NEIGHBOUR: 'it returns false'. Refute it at one input. -/
def fnExactStillWithWrong : ChangeSpec := { name := "fnExactStillWith", fn := fun _ => fun
  | [d1, d2, d3, d4] => { results := [.lit (.bool false)], args := [d1, d2, d3, d4] }
  | _ => none }
def FnExactStillWithWrongFalsely : Prop := fnExactStillWithRow.holds Try.pinned (OpenSpec.ofChange fnExactStillWithWrong)

/-- 'laws.FnExactRefundOf': WHATEVER THE INPUT: true; the input reads as it did. -/
def fnExactRefundOfSpec : ChangeSpec := { name := "fnExactRefundOf", fn := fun _ => fun
  | [d1, d2, d3] => { results := [.lit (.bool true)], args := [d1, d2, d3] }
  | _ => none }
def fnExactRefundOfRow : OpenClaim := { program := "ytennlgkacijnnaa", sum := "1eab71903a8b831d80ef528eb49aba7af43649b0748f846e1cd8f198101133e2", func := "loop.example/g01366/laws.FnExactRefundOf", spec := "fnExactRefundOf", unfollowed := true, recurses := true, apart := false }
def FnExactRefundOfSaid : Prop := fnExactRefundOfRow.holds Try.pinned (OpenSpec.ofChange fnExactRefundOfSpec)

/-- ITS FALSE NEIGHBOUR: 'it returns false'. Refute it at one input. -/
def fnExactRefundOfWrong : ChangeSpec := { name := "fnExactRefundOf", fn := fun _ => fun
  | [d1, d2, d3] => { results := [.lit (.bool false)], args := [d1, d2, d3] }
  | _ => none }
def FnExactRefundOfWrongFalsely : Prop := fnExactRefundOfRow.holds Try.pinned (OpenSpec.ofChange fnExactRefundOfWrong)

/-- 'laws.FnExactCheckMatches': WHATEVER THE INPUT: true; the input reads as it did. -/
def fnExactCheckMatchesSpec : ChangeSpec := { name := "fnExactCheckMatches", fn := fun _ => fun
  | [d1, d2, d3, d4] => { results := [.lit (.bool true)], args := [d1, d2, d3, d4] }
  | _ => none }
def fnExactCheckMatchesRow : OpenClaim := { program := "ytennlgkacijnnaa", sum := "1eab71903a8b831d80ef528eb49aba7af43649b0748f846e1cd8f198101133e2", func := "loop.example/g01366/laws.FnExactCheckMatches", spec := "fnExactCheckMatches", unfollowed := true, recurses := true, apart := false }
def FnExactCheckMatchesSaid : Prop := fnExactCheckMatchesRow.holds Try.pinned (OpenSpec.ofChange fnExactCheckMatchesSpec)

/-- ITS FALSE NEIGHBOUR: 'it returns false'. Refute it at one input. -/
def fnExactCheckMatchesWrong : ChangeSpec := { name := "fnExactCheckMatches", fn := fun _ => fun
  | [d1, d2, d3, d4] => { results := [.lit (.bool false)], args := [d1, d2, d3, d4] }
  | _ => none }
def FnExactCheckMatchesWrongFalsely : Prop := fnExactCheckMatchesRow.holds Try.pinned (OpenSpec.ofChange fnExactCheckMatchesWrong)

/-- 'laws.FnExactPayVouchers': WHATEVER THE INPUT: true; the input reads as it did. -/
def fnExactPayVouchersSpec : ChangeSpec := { name := "fnExactPayVouchers", fn := fun _ => fun
  | [d1, d2, d3] => { results := [.lit (.bool true)], args := [d1, d2, d3] }
  | _ => none }
def fnExactPayVouchersRow : OpenClaim := { program := "ytennlgkacijnnaa", sum := "1eab71903a8b831d80ef528eb49aba7af43649b0748f846e1cd8f198101133e2", func := "loop.example/g01366/laws.FnExactPayVouchers", spec := "fnExactPayVouchers", unfollowed := true, recurses := true, apart := false }
def FnExactPayVouchersSaid : Prop := fnExactPayVouchersRow.holds Try.pinned (OpenSpec.ofChange fnExactPayVouchersSpec)

/-- ITS FALSE NEIGHBOUR: 'it returns false'. Refute it at one input. -/
def fnExactPayVouchersWrong : ChangeSpec := { name := "fnExactPayVouchers", fn := fun _ => fun
  | [d1, d2, d3] => { results := [.lit (.bool false)], args := [d1, d2, d3] }
  | _ => none }
def FnExactPayVouchersWrongFalsely : Prop := fnExactPayVouchersRow.holds Try.pinned (OpenSpec.ofChange fnExactPayVouchersWrong)

/-- 'laws.FnExactFirstDayShort': WHATEVER THE INPUT: true; the input reads as it did. -/
def fnExactFirstDayShortSpec : ChangeSpec := { name := "fnExactFirstDayShort", fn := fun _ => fun
  | [d1, d2] => { results := [.lit (.bool true)], args := [d1, d2] }
  | _ => none }
def fnExactFirstDayShortRow : OpenClaim := { program := "ytennlgkacijnnaa", sum := "1eab71903a8b831d80ef528eb49aba7af43649b0748f846e1cd8f198101133e2", func := "loop.example/g01366/laws.FnExactFirstDayShort", spec := "fnExactFirstDayShort", unfollowed := true, recurses := true, apart := false }
def FnExactFirstDayShortSaid : Prop := fnExactFirstDayShortRow.holds Try.pinned (OpenSpec.ofChange fnExactFirstDayShortSpec)

/-- ITS FALSE NEIGHBOUR: 'it returns false'. Refute it at one input. -/
def fnExactFirstDayShortWrong : ChangeSpec := { name := "fnExactFirstDayShort", fn := fun _ => fun
  | [d1, d2] => { results := [.lit (.bool false)], args := [d1, d2] }
  | _ => none }
def FnExactFirstDayShortWrongFalsely : Prop := fnExactFirstDayShortRow.holds Try.pinned (OpenSpec.ofChange fnExactFirstDayShortWrong)

/-- 'laws.FnExactLeftOver': WHATEVER THE INPUT: true; the input reads as it did. -/
def fnExactLeftOverSpec : ChangeSpec := { name := "fnExactLeftOver", fn := fun _ => fun
  | [d1, d2, d3] => { results := [.lit (.bool true)], args := [d1, d2, d3] }
  | _ => none }
def fnExactLeftOverRow : OpenClaim := { program := "ytennlgkacijnnaa", sum := "1eab71903a8b831d80ef528eb49aba7af43649b0748f846e1cd8f198101133e2", func := "loop.example/g01366/laws.FnExactLeftOver", spec := "fnExactLeftOver", unfollowed := true, recurses := true, apart := false }
def FnExactLeftOverSaid : Prop := fnExactLeftOverRow.holds Try.pinned (OpenSpec.ofChange fnExactLeftOverSpec)

/-- ITS FALSE NEIGHBOUR: 'it returns false'. Refute it at one input. -/
def fnExactLeftOverWrong : ChangeSpec := { name := "fnExactLeftOver", fn := fun _ => fun
  | [d1, d2, d3] => { results := [.lit (.bool false)], args := [d1, d2, d3] }
  | _ => none }
def FnExactLeftOverWrongFalsely : Prop := fnExactLeftOverRow.holds Try.pinned (OpenSpec.ofChange fnExactLeftOverWrong)

/-- 'laws.FnExactMatchReturns': WHATEVER THE INPUT: true; the input reads as it did. -/
def fnExactMatchReturnsSpec : ChangeSpec := { name := "fnExactMatchReturns", fn := fun _ => fun
  | [d1, d2, d3] => { results := [.lit (.bool true)], args := [d1, d2, d3] }
  | _ => none }
def fnExactMatchReturnsRow : OpenClaim := { program := "ytennlgkacijnnaa", sum := "1eab71903a8b831d80ef528eb49aba7af43649b0748f846e1cd8f198101133e2", func := "loop.example/g01366/laws.FnExactMatchReturns", spec := "fnExactMatchReturns", unfollowed := true, recurses := true, apart := false }
def FnExactMatchReturnsSaid : Prop := fnExactMatchReturnsRow.holds Try.pinned (OpenSpec.ofChange fnExactMatchReturnsSpec)

/-- ITS FALSE NEIGHBOUR: 'it returns false'. Refute it at one input. -/
def fnExactMatchReturnsWrong : ChangeSpec := { name := "fnExactMatchReturns", fn := fun _ => fun
  | [d1, d2, d3] => { results := [.lit (.bool false)], args := [d1, d2, d3] }
  | _ => none }
def FnExactMatchReturnsWrongFalsely : Prop := fnExactMatchReturnsRow.holds Try.pinned (OpenSpec.ofChange fnExactMatchReturnsWrong)

/- THE SECOND FORM. 'bulk': how many values and letters a reading holds, each counted each time it is reached (what is shared counts as often as it is met; a slice's spare places count too). A statement '..UptoSaid' is the law's where the arguments, and the package variables that the reading takes, are together of bulk at most 1048576: NARROWER than '..Said'. Prove '..Said' where nothing that the law and all that it calls make is longer than what came in: it says more and counts as full. Else prove '..UptoSaid'. A law counts once. -/
mutual
def uptoBulk {H : Type} : DataW H → Nat
  | .lit (.string bytes) => bytes.length + 1
  | .lit _ => 1
  | .nil => 1
  | .ptr d => uptoBulk d + 1
  | .slice elems spare => uptoBulkAll elems + uptoBulkAll spare + 1
  | .agg parts => uptoBulkAll parts + 1
  | .iface _ d => uptoBulk d + 1
  | .map entries => uptoBulkEntries entries + 1
  | .held _ => 1
def uptoBulkAll {H : Type} : List (DataW H) → Nat
  | [] => 0
  | d :: r => uptoBulk d + uptoBulkAll r
def uptoBulkEntries {H : Type} : List (Lit × DataW H) → Nat
  | [] => 0
  | x :: r => uptoBulkEntry x + uptoBulkEntries r
def uptoBulkEntry {H : Type} : Lit × DataW H → Nat
  | (.string bytes, d) => bytes.length + uptoBulk d + 1
  | (_, d) => uptoBulk d + 1
 end
def uptoSmall : (H : Type) → List (DataW H) → Bool := fun _ ds => decide (uptoBulkAll ds ≤ 1048576)
def OpenSpec.upto (s : _root_.Go.ChangeSpec) : _root_.Go.OpenSpec := { _root_.Go.OpenSpec.ofChange s with cond := some uptoSmall }

/-- 'laws.FnExactValidOrders', WHERE WHAT IT READS IS OF BULK AT MOST 1048576: true; the input reads as it did. -/
def fnExactValidOrdersUptoRow : OpenClaim := { program := "ytennlgkacijnnaa", sum := "1eab71903a8b831d80ef528eb49aba7af43649b0748f846e1cd8f198101133e2", func := "loop.example/g01366/laws.FnExactValidOrders", spec := "fnExactValidOrders", unfollowed := true, recurses := true, apart := false, narrowed := true }
def FnExactValidOrdersUptoSaid : Prop := fnExactValidOrdersUptoRow.holds Try.pinned (OpenSpec.upto fnExactValidOrdersSpec)

/-- 'laws.FnExactLostBy', WHERE WHAT IT READS IS OF BULK AT MOST 1048576: true; the input reads as it did. -/
def fnExactLostByUptoRow : OpenClaim := { program := "ytennlgkacijnnaa", sum := "1eab71903a8b831d80ef528eb49aba7af43649b0748f846e1cd8f198101133e2", func := "loop.example/g01366/laws.FnExactLostBy", spec := "fnExactLostBy", unfollowed := true, recurses := true, apart := false, narrowed := true }
def FnExactLostByUptoSaid : Prop := fnExactLostByUptoRow.holds Try.pinned (OpenSpec.upto fnExactLostBySpec)

/-- 'laws.FnExactWorthAt', WHERE WHAT IT READS IS OF BULK AT MOST 1048576: true; the input reads as it did. -/
def fnExactWorthAtUptoRow : OpenClaim := { program := "ytennlgkacijnnaa", sum := "1eab71903a8b831d80ef528eb49aba7af43649b0748f846e1cd8f198101133e2", func := "loop.example/g01366/laws.FnExactWorthAt", spec := "fnExactWorthAt", unfollowed := true, recurses := true, apart := false, narrowed := true }
def FnExactWorthAtUptoSaid : Prop := fnExactWorthAtUptoRow.holds Try.pinned (OpenSpec.upto fnExactWorthAtSpec)

/-- 'laws.FnExactStillWith', WHERE WHAT IT READS IS OF BULK AT MOST 1048576: true; the input reads as it did. -/
def fnExactStillWithUptoRow : OpenClaim := { program := "ytennlgkacijnnaa", sum := "1eab71903a8b831d80ef528eb49aba7af43649b0748f846e1cd8f198101133e2", func := "loop.example/g01366/laws.FnExactStillWith", spec := "fnExactStillWith", unfollowed := true, recurses := true, apart := false, narrowed := true }
def FnExactStillWithUptoSaid : Prop := fnExactStillWithUptoRow.holds Try.pinned (OpenSpec.upto fnExactStillWithSpec)

/-- 'laws.FnExactRefundOf', WHERE WHAT IT READS IS OF BULK AT MOST 1048576: true; the input reads as it did. -/
def fnExactRefundOfUptoRow : OpenClaim := { program := "ytennlgkacijnnaa", sum := "1eab71903a8b831d80ef528eb49aba7af43649b0748f846e1cd8f198101133e2", func := "loop.example/g01366/laws.FnExactRefundOf", spec := "fnExactRefundOf", unfollowed := true, recurses := true, apart := false, narrowed := true }
def FnExactRefundOfUptoSaid : Prop := fnExactRefundOfUptoRow.holds Try.pinned (OpenSpec.upto fnExactRefundOfSpec)

/-- 'laws.FnExactCheckMatches', WHERE WHAT IT READS IS OF BULK AT MOST 1048576: true; the input reads as it did. -/
def fnExactCheckMatchesUptoRow : OpenClaim := { program := "ytennlgkacijnnaa", sum := "1eab71903a8b831d80ef528eb49aba7af43649b0748f846e1cd8f198101133e2", func := "loop.example/g01366/laws.FnExactCheckMatches", spec := "fnExactCheckMatches", unfollowed := true, recurses := true, apart := false, narrowed := true }
def FnExactCheckMatchesUptoSaid : Prop := fnExactCheckMatchesUptoRow.holds Try.pinned (OpenSpec.upto fnExactCheckMatchesSpec)

/-- 'laws.FnExactPayVouchers', WHERE WHAT IT READS IS OF BULK AT MOST 1048576: true; the input reads as it did. -/
def fnExactPayVouchersUptoRow : OpenClaim := { program := "ytennlgkacijnnaa", sum := "1eab71903a8b831d80ef528eb49aba7af43649b0748f846e1cd8f198101133e2", func := "loop.example/g01366/laws.FnExactPayVouchers", spec := "fnExactPayVouchers", unfollowed := true, recurses := true, apart := false, narrowed := true }
def FnExactPayVouchersUptoSaid : Prop := fnExactPayVouchersUptoRow.holds Try.pinned (OpenSpec.upto fnExactPayVouchersSpec)

/-- 'laws.FnExactFirstDayShort', WHERE WHAT IT READS IS OF BULK AT MOST 1048576: true; the input reads as it did. -/
def fnExactFirstDayShortUptoRow : OpenClaim := { program := "ytennlgkacijnnaa", sum := "1eab71903a8b831d80ef528eb49aba7af43649b0748f846e1cd8f198101133e2", func := "loop.example/g01366/laws.FnExactFirstDayShort", spec := "fnExactFirstDayShort", unfollowed := true, recurses := true, apart := false, narrowed := true }
def FnExactFirstDayShortUptoSaid : Prop := fnExactFirstDayShortUptoRow.holds Try.pinned (OpenSpec.upto fnExactFirstDayShortSpec)

/-- 'laws.FnExactLeftOver', WHERE WHAT IT READS IS OF BULK AT MOST 1048576: true; the input reads as it did. -/
def fnExactLeftOverUptoRow : OpenClaim := { program := "ytennlgkacijnnaa", sum := "1eab71903a8b831d80ef528eb49aba7af43649b0748f846e1cd8f198101133e2", func := "loop.example/g01366/laws.FnExactLeftOver", spec := "fnExactLeftOver", unfollowed := true, recurses := true, apart := false, narrowed := true }
def FnExactLeftOverUptoSaid : Prop := fnExactLeftOverUptoRow.holds Try.pinned (OpenSpec.upto fnExactLeftOverSpec)

/-- 'laws.FnExactMatchReturns', WHERE WHAT IT READS IS OF BULK AT MOST 1048576: true; the input reads as it did. -/
def fnExactMatchReturnsUptoRow : OpenClaim := { program := "ytennlgkacijnnaa", sum := "1eab71903a8b831d80ef528eb49aba7af43649b0748f846e1cd8f198101133e2", func := "loop.example/g01366/laws.FnExactMatchReturns", spec := "fnExactMatchReturns", unfollowed := true, recurses := true, apart := false, narrowed := true }
def FnExactMatchReturnsUptoSaid : Prop := fnExactMatchReturnsUptoRow.holds Try.pinned (OpenSpec.upto fnExactMatchReturnsSpec)

end Rows
end Go.Proofs.Ytennlgkacijnnaa
