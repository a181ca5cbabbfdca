/-
  DERIVED. GIVEN WITH THE SEED: THE CARDS: each row of YtgbapakcfmgahaaGreatDoorRows.lean that lists a variable, with what it lists TIED to the program's text (the seventh form; the later family's looks); each row that meets fmt, with fmt's text TOLD by the authors' own Lean function (tested against real Go, not proved from fmt's source: count such statements apart). THE CARD IS WHAT COUNTS. Prove the row's statement (the work); the ties are given (YtgbapakcfmgahaaGreatDoorTie.lean); close each card by the builder's one call (the guide's Derived/Test/ToyasCard.lean, 'card_holds'). Laid BY PROGRAM, IN A SANDBOX (cutbox-door.mjs). By AI agents, Wed Nov 11 2026. No macro, syntax, notation, axiom, sorry.
-/
import Derived.Test.YtgbapakcfmgahaaGreatDoorRows
import GoSem.ClaimSeven
namespace Go.Proofs.YtgbapakcfmgahaaGreatDoor
namespace Rows

/-- THE TIED CARD OF 'laws.FnExactGateTend'. -/
def fnExactGateTendCard : Claim7 := { stood := { row := fnExactGateTendRow, standIns := [], harness := (true, "58a9d824da01f2f17fb3dd0f468029e995faeba479e3e43bef73558cea26bed7"), looks := true }, kinds := [], alts := [], laidByText := true, laidKinds := [.data, .data, .data, .data, .sentinel, .sentinel, .pinned], laidTests := true, laidLooks := .later }
def FnExactGateTendCardSaid : Prop := Claim7.holds Tryz.pinned (.plain (OpenSpec.ofChange fnExactGateTendSpec)) fnExactGateTendCard

/-- THE SECOND FORM's CARD OF 'laws.FnExactGateTend'. -/
def fnExactGateTendUptoCard : Claim7 := { stood := { row := fnExactGateTendUptoRow, standIns := [], harness := (true, "58a9d824da01f2f17fb3dd0f468029e995faeba479e3e43bef73558cea26bed7"), looks := true }, kinds := [], alts := [], laidByText := true, laidKinds := [.data, .data, .data, .data, .sentinel, .sentinel, .pinned], laidTests := true, laidLooks := .later }
def FnExactGateTendUptoCardSaid : Prop := Claim7.holds Tryz.pinned (.plain (OpenSpec.upto fnExactGateTendSpec)) fnExactGateTendUptoCard
end Rows
end Go.Proofs.YtgbapakcfmgahaaGreatDoor
