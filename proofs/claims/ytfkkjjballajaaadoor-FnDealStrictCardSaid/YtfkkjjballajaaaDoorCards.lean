/-
  DERIVED. GIVEN WITH THE SEED: THE CARDS: each row of YtfkkjjballajaaaDoorRows.lean that lists a variable, with what it lists TIED to the program's text (the seventh form; the later family's looks); each row that meets fmt, with fmt's text TOLD by the authors' own Lean function (tested against real Go, not proved from fmt's source: count such statements apart). THE CARD IS WHAT COUNTS. Prove the row's statement (the work); the ties are given (YtfkkjjballajaaaDoorTie.lean); close each card by the builder's one call (the guide's Derived/Test/ToyasCard.lean, 'card_holds'). Laid BY PROGRAM, IN A SANDBOX (cutbox-door.mjs). By AI agents, Wed Nov 11 2026. No macro, syntax, notation, axiom, sorry.
-/
import Derived.Test.YtfkkjjballajaaaDoorRows
import GoSem.ClaimSeven
namespace Go.Proofs.YtfkkjjballajaaaDoor
namespace Rows

/-- THE TIED CARD OF 'laws.FnDealText'. -/
def fnDealTextCard : Claim7 := { stood := { row := fnDealTextRow, standIns := [], harness := (true, "158ecaf779e656cf24028e60e05cdb9ffe10f36b1c1bbd58cedefcf935be36a2"), looks := true }, kinds := [], alts := [], laidByText := true, laidKinds := [.data, .data, .data, .data, .sentinel, .sentinel, .pinned], laidTests := true, laidLooks := .later }
def FnDealTextCardSaid : Prop := Claim7.holds Tryd.pinned (.plain (OpenSpec.ofChange fnDealTextSpec)) fnDealTextCard

/-- THE TIED CARD OF 'laws.FnExactDealRead'. -/
def fnExactDealReadCard : Claim7 := { stood := { row := fnExactDealReadRow, standIns := [], harness := (true, "158ecaf779e656cf24028e60e05cdb9ffe10f36b1c1bbd58cedefcf935be36a2"), looks := true }, kinds := [], alts := [], laidByText := true, laidKinds := [.data, .data, .data, .data, .sentinel, .sentinel, .pinned], laidTests := true, laidLooks := .later }
def FnExactDealReadCardSaid : Prop := Claim7.holds Tryd.pinned (.plain (OpenSpec.ofChange fnExactDealReadSpec)) fnExactDealReadCard

/-- THE TIED CARD OF 'laws.FnExactCallOk'. -/
def fnExactCallOkCard : Claim7 := { stood := { row := fnExactCallOkRow, standIns := [], harness := (true, "158ecaf779e656cf24028e60e05cdb9ffe10f36b1c1bbd58cedefcf935be36a2"), looks := true }, kinds := [], alts := [], laidByText := true, laidKinds := [.data, .data, .data, .data, .sentinel, .sentinel, .pinned], laidTests := true, laidLooks := .later }
def FnExactCallOkCardSaid : Prop := Claim7.holds Tryd.pinned (.plain (OpenSpec.ofChange fnExactCallOkSpec)) fnExactCallOkCard

/-- THE TIED CARD OF 'laws.FnDealStrict'. -/
def fnDealStrictCard : Claim7 := { stood := { row := fnDealStrictRow, standIns := [], harness := (true, "158ecaf779e656cf24028e60e05cdb9ffe10f36b1c1bbd58cedefcf935be36a2"), looks := true }, kinds := [], alts := [], laidByText := true, laidKinds := [.data, .data, .data, .data, .sentinel, .sentinel, .pinned], laidTests := true, laidLooks := .later }
def FnDealStrictCardSaid : Prop := Claim7.holds Tryd.pinned (.plain (OpenSpec.ofChange fnDealStrictSpec)) fnDealStrictCard

/-- THE TIED CARD OF 'laws.FnExactToldAt'. -/
def fnExactToldAtCard : Claim7 := { stood := { row := fnExactToldAtRow, standIns := [], harness := (true, "158ecaf779e656cf24028e60e05cdb9ffe10f36b1c1bbd58cedefcf935be36a2"), looks := true }, kinds := [], alts := [], laidByText := true, laidKinds := [.data, .data, .data, .data, .sentinel, .sentinel, .pinned], laidTests := true, laidLooks := .later }
def FnExactToldAtCardSaid : Prop := Claim7.holds Tryd.pinned (.plain (OpenSpec.ofChange fnExactToldAtSpec)) fnExactToldAtCard

/-- THE SECOND FORM's CARD OF 'laws.FnDealText'. -/
def fnDealTextUptoCard : Claim7 := { stood := { row := fnDealTextUptoRow, standIns := [], harness := (true, "158ecaf779e656cf24028e60e05cdb9ffe10f36b1c1bbd58cedefcf935be36a2"), looks := true }, kinds := [], alts := [], laidByText := true, laidKinds := [.data, .data, .data, .data, .sentinel, .sentinel, .pinned], laidTests := true, laidLooks := .later }
def FnDealTextUptoCardSaid : Prop := Claim7.holds Tryd.pinned (.plain (OpenSpec.upto fnDealTextSpec)) fnDealTextUptoCard

/-- THE SECOND FORM's CARD OF 'laws.FnExactDealRead'. -/
def fnExactDealReadUptoCard : Claim7 := { stood := { row := fnExactDealReadUptoRow, standIns := [], harness := (true, "158ecaf779e656cf24028e60e05cdb9ffe10f36b1c1bbd58cedefcf935be36a2"), looks := true }, kinds := [], alts := [], laidByText := true, laidKinds := [.data, .data, .data, .data, .sentinel, .sentinel, .pinned], laidTests := true, laidLooks := .later }
def FnExactDealReadUptoCardSaid : Prop := Claim7.holds Tryd.pinned (.plain (OpenSpec.upto fnExactDealReadSpec)) fnExactDealReadUptoCard

/-- THE SECOND FORM's CARD OF 'laws.FnExactCallOk'. -/
def fnExactCallOkUptoCard : Claim7 := { stood := { row := fnExactCallOkUptoRow, standIns := [], harness := (true, "158ecaf779e656cf24028e60e05cdb9ffe10f36b1c1bbd58cedefcf935be36a2"), looks := true }, kinds := [], alts := [], laidByText := true, laidKinds := [.data, .data, .data, .data, .sentinel, .sentinel, .pinned], laidTests := true, laidLooks := .later }
def FnExactCallOkUptoCardSaid : Prop := Claim7.holds Tryd.pinned (.plain (OpenSpec.upto fnExactCallOkSpec)) fnExactCallOkUptoCard

/-- THE SECOND FORM's CARD OF 'laws.FnDealStrict'. -/
def fnDealStrictUptoCard : Claim7 := { stood := { row := fnDealStrictUptoRow, standIns := [], harness := (true, "158ecaf779e656cf24028e60e05cdb9ffe10f36b1c1bbd58cedefcf935be36a2"), looks := true }, kinds := [], alts := [], laidByText := true, laidKinds := [.data, .data, .data, .data, .sentinel, .sentinel, .pinned], laidTests := true, laidLooks := .later }
def FnDealStrictUptoCardSaid : Prop := Claim7.holds Tryd.pinned (.plain (OpenSpec.upto fnDealStrictSpec)) fnDealStrictUptoCard

/-- THE SECOND FORM's CARD OF 'laws.FnExactToldAt'. -/
def fnExactToldAtUptoCard : Claim7 := { stood := { row := fnExactToldAtUptoRow, standIns := [], harness := (true, "158ecaf779e656cf24028e60e05cdb9ffe10f36b1c1bbd58cedefcf935be36a2"), looks := true }, kinds := [], alts := [], laidByText := true, laidKinds := [.data, .data, .data, .data, .sentinel, .sentinel, .pinned], laidTests := true, laidLooks := .later }
def FnExactToldAtUptoCardSaid : Prop := Claim7.holds Tryd.pinned (.plain (OpenSpec.upto fnExactToldAtSpec)) fnExactToldAtUptoCard
end Rows
end Go.Proofs.YtfkkjjballajaaaDoor
