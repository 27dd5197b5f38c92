/-
  DERIVED. GIVEN WITH THE SEED: THE CARDS: each row of YtcekifhkbdjpdaaDoorRows.lean that lists a variable, with what it lists TIED to the program's text (the seventh form; the later family's looks); each row that meets fmt, with fmt's text TOLD by the authors' own Lean function (tested against real Go, not proved from fmt's source: count such statements apart). THE CARD IS WHAT COUNTS. Prove the row's statement (the work); the ties are given (YtcekifhkbdjpdaaDoorTie.lean); close each card by the builder's one call (the guide's Derived/Test/ToyasCard.lean, 'card_holds'). Laid BY PROGRAM, IN A SANDBOX (cutbox-door.mjs). By AI agents, Wed Nov 11 2026. No macro, syntax, notation, axiom, sorry.
-/
import Derived.Test.YtcekifhkbdjpdaaDoorRows
import GoSem.ClaimSeven
namespace Go.Proofs.YtcekifhkbdjpdaaDoor
namespace Rows

/-- THE TIED CARD OF 'laws.FnExactVouchersText'. -/
def fnExactVouchersTextCard : Claim7 := { stood := { row := fnExactVouchersTextRow, standIns := [], harness := (true, "9cbbf2d0e5f437a7fd4f42b4b8c3e770f0e03a2e96bfe49cea303687ddbd09ce"), looks := true }, kinds := [], alts := [], laidByText := true, laidKinds := [.data, .data, .data], laidTests := true, laidLooks := .later }
def FnExactVouchersTextCardSaid : Prop := Claim7.holds Tryd.pinned (.plain (OpenSpec.ofChange fnExactVouchersTextSpec)) fnExactVouchersTextCard

/-- THE TIED CARD OF 'laws.FnExactReadVouchers'. -/
def fnExactReadVouchersCard : Claim7 := { stood := { row := fnExactReadVouchersRow, standIns := [], harness := (true, "9cbbf2d0e5f437a7fd4f42b4b8c3e770f0e03a2e96bfe49cea303687ddbd09ce"), looks := true }, kinds := [], alts := [], laidByText := true, laidKinds := [.data, .data, .data, .data, .sentinel, .sentinel, .pinned], laidTests := true, laidLooks := .later }
def FnExactReadVouchersCardSaid : Prop := Claim7.holds Tryd.pinned (.plain (OpenSpec.ofChange fnExactReadVouchersSpec)) fnExactReadVouchersCard

/-- THE TIED CARD OF 'laws.FnExactNetText'. -/
def fnExactNetTextCard : Claim7 := { stood := { row := fnExactNetTextRow, standIns := [], harness := (true, "9cbbf2d0e5f437a7fd4f42b4b8c3e770f0e03a2e96bfe49cea303687ddbd09ce"), looks := true }, kinds := [], alts := [], laidByText := true, laidKinds := [.data, .data, .data], laidTests := true, laidLooks := .later }
def FnExactNetTextCardSaid : Prop := Claim7.holds Tryd.pinned (.plain (OpenSpec.ofChange fnExactNetTextSpec)) fnExactNetTextCard

/-- THE TIED CARD OF 'laws.FnExactReadNet'. -/
def fnExactReadNetCard : Claim7 := { stood := { row := fnExactReadNetRow, standIns := [], harness := (true, "9cbbf2d0e5f437a7fd4f42b4b8c3e770f0e03a2e96bfe49cea303687ddbd09ce"), looks := true }, kinds := [], alts := [], laidByText := true, laidKinds := [.data, .data, .data, .data, .sentinel, .sentinel, .pinned], laidTests := true, laidLooks := .later }
def FnExactReadNetCardSaid : Prop := Claim7.holds Tryd.pinned (.plain (OpenSpec.ofChange fnExactReadNetSpec)) fnExactReadNetCard

/-- THE SECOND FORM's CARD OF 'laws.FnExactVouchersText'. -/
def fnExactVouchersTextUptoCard : Claim7 := { stood := { row := fnExactVouchersTextUptoRow, standIns := [], harness := (true, "9cbbf2d0e5f437a7fd4f42b4b8c3e770f0e03a2e96bfe49cea303687ddbd09ce"), looks := true }, kinds := [], alts := [], laidByText := true, laidKinds := [.data, .data, .data], laidTests := true, laidLooks := .later }
def FnExactVouchersTextUptoCardSaid : Prop := Claim7.holds Tryd.pinned (.plain (OpenSpec.upto fnExactVouchersTextSpec)) fnExactVouchersTextUptoCard

/-- THE SECOND FORM's CARD OF 'laws.FnExactReadVouchers'. -/
def fnExactReadVouchersUptoCard : Claim7 := { stood := { row := fnExactReadVouchersUptoRow, standIns := [], harness := (true, "9cbbf2d0e5f437a7fd4f42b4b8c3e770f0e03a2e96bfe49cea303687ddbd09ce"), looks := true }, kinds := [], alts := [], laidByText := true, laidKinds := [.data, .data, .data, .data, .sentinel, .sentinel, .pinned], laidTests := true, laidLooks := .later }
def FnExactReadVouchersUptoCardSaid : Prop := Claim7.holds Tryd.pinned (.plain (OpenSpec.upto fnExactReadVouchersSpec)) fnExactReadVouchersUptoCard

/-- THE SECOND FORM's CARD OF 'laws.FnExactNetText'. -/
def fnExactNetTextUptoCard : Claim7 := { stood := { row := fnExactNetTextUptoRow, standIns := [], harness := (true, "9cbbf2d0e5f437a7fd4f42b4b8c3e770f0e03a2e96bfe49cea303687ddbd09ce"), looks := true }, kinds := [], alts := [], laidByText := true, laidKinds := [.data, .data, .data], laidTests := true, laidLooks := .later }
def FnExactNetTextUptoCardSaid : Prop := Claim7.holds Tryd.pinned (.plain (OpenSpec.upto fnExactNetTextSpec)) fnExactNetTextUptoCard

/-- THE SECOND FORM's CARD OF 'laws.FnExactReadNet'. -/
def fnExactReadNetUptoCard : Claim7 := { stood := { row := fnExactReadNetUptoRow, standIns := [], harness := (true, "9cbbf2d0e5f437a7fd4f42b4b8c3e770f0e03a2e96bfe49cea303687ddbd09ce"), looks := true }, kinds := [], alts := [], laidByText := true, laidKinds := [.data, .data, .data, .data, .sentinel, .sentinel, .pinned], laidTests := true, laidLooks := .later }
def FnExactReadNetUptoCardSaid : Prop := Claim7.holds Tryd.pinned (.plain (OpenSpec.upto fnExactReadNetSpec)) fnExactReadNetUptoCard
end Rows
end Go.Proofs.YtcekifhkbdjpdaaDoor
