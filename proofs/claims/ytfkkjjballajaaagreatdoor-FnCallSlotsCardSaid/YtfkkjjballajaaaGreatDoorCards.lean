/-
  DERIVED. GIVEN WITH THE SEED: THE CARDS: each row of YtfkkjjballajaaaGreatDoorRows.lean that lists a variable, with what it lists TIED to the program's text (the seventh form; the later family's looks); each row that meets fmt, with fmt's text TOLD by the authors' own Lean function (tested against real Go, not proved from fmt's source: count such statements apart). THE CARD IS WHAT COUNTS. Prove the row's statement (the work); the ties are given (YtfkkjjballajaaaGreatDoorTie.lean); close each card by the builder's one call (the guide's Derived/Test/ToyasCard.lean, 'card_holds'). Laid BY PROGRAM, IN A SANDBOX (cutbox-door.mjs). By AI agents, Wed Nov 11 2026. No macro, syntax, notation, axiom, sorry.
-/
import Derived.Test.YtfkkjjballajaaaGreatDoorRows
import GoSem.ClaimSeven
namespace Go.Proofs.YtfkkjjballajaaaGreatDoor
namespace Rows

/-- THE TIED CARD OF 'laws.FnExactCallSlots'. -/
def fnExactCallSlotsCard : Claim7 := { stood := { row := fnExactCallSlotsRow, standIns := [], harness := (true, "ece75892bb87c4424a2268cb1b1469571f8c403dadb379d51513c7afac5775c4"), looks := true }, kinds := [], alts := [], laidByText := true, laidKinds := [.data, .data, .data, .data, .sentinel, .sentinel, .pinned], laidTests := true, laidLooks := .later }
def FnExactCallSlotsCardSaid : Prop := Claim7.holds Tryz.pinned (.plain (OpenSpec.ofChange fnExactCallSlotsSpec)) fnExactCallSlotsCard

/-- THE TIED CARD OF 'laws.FnCallSlots'. -/
def fnCallSlotsCard : Claim7 := { stood := { row := fnCallSlotsRow, standIns := [], harness := (true, "ece75892bb87c4424a2268cb1b1469571f8c403dadb379d51513c7afac5775c4"), looks := true }, kinds := [], alts := [], laidByText := true, laidKinds := [.data, .data, .data, .data, .sentinel, .sentinel, .pinned], laidTests := true, laidLooks := .later }
def FnCallSlotsCardSaid : Prop := Claim7.holds Tryz.pinned (.plain (OpenSpec.ofChange fnCallSlotsSpec)) fnCallSlotsCard

/-- THE SECOND FORM's CARD OF 'laws.FnExactCallSlots'. -/
def fnExactCallSlotsUptoCard : Claim7 := { stood := { row := fnExactCallSlotsUptoRow, standIns := [], harness := (true, "ece75892bb87c4424a2268cb1b1469571f8c403dadb379d51513c7afac5775c4"), looks := true }, kinds := [], alts := [], laidByText := true, laidKinds := [.data, .data, .data, .data, .sentinel, .sentinel, .pinned], laidTests := true, laidLooks := .later }
def FnExactCallSlotsUptoCardSaid : Prop := Claim7.holds Tryz.pinned (.plain (OpenSpec.upto fnExactCallSlotsSpec)) fnExactCallSlotsUptoCard

/-- THE SECOND FORM's CARD OF 'laws.FnCallSlots'. -/
def fnCallSlotsUptoCard : Claim7 := { stood := { row := fnCallSlotsUptoRow, standIns := [], harness := (true, "ece75892bb87c4424a2268cb1b1469571f8c403dadb379d51513c7afac5775c4"), looks := true }, kinds := [], alts := [], laidByText := true, laidKinds := [.data, .data, .data, .data, .sentinel, .sentinel, .pinned], laidTests := true, laidLooks := .later }
def FnCallSlotsUptoCardSaid : Prop := Claim7.holds Tryz.pinned (.plain (OpenSpec.upto fnCallSlotsSpec)) fnCallSlotsUptoCard
end Rows
end Go.Proofs.YtfkkjjballajaaaGreatDoor
