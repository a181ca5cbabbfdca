/-
  DERIVED. GIVEN WITH THE SEED: THE CARDS: each row of YtjioiemhgbkbfaaGreatDoorRows.lean that lists a variable, with what it lists TIED to the program's text (the seventh form; the later family's looks); each row that meets fmt, with fmt's text TOLD by the authors' own Lean function (tested against real Go, not proved from fmt's source: count such statements apart). THE CARD IS WHAT COUNTS. Prove the row's statement (the work); the ties are given (YtjioiemhgbkbfaaGreatDoorTie.lean); close each card by the builder's one call (the guide's Derived/Test/ToyasCard.lean, 'card_holds'). Laid BY PROGRAM, IN A SANDBOX (cutbox-door.mjs). By AI agents, Wed Nov 11 2026. No macro, syntax, notation, axiom, sorry.
-/
import Derived.Test.YtjioiemhgbkbfaaGreatDoorRows
import GoSem.ClaimSeven
namespace Go.Proofs.YtjioiemhgbkbfaaGreatDoor
namespace Rows

/-- THE TIED CARD OF 'laws.FnExactTollOk'. -/
def fnExactTollOkCard : Claim7 := { stood := { row := fnExactTollOkRow, standIns := [], harness := (true, "f33ba122d8b3b1303363410e55cb2b6c25983b73f7f485d14d6d27ef58626d9e"), looks := true }, kinds := [], alts := [], laidByText := true, laidKinds := [.data, .data, .data, .data, .sentinel, .sentinel, .sentinel, .sentinel, .sentinel, .sentinel, .sentinel, .pinned], laidTests := true, laidLooks := .later }
def FnExactTollOkCardSaid : Prop := Claim7.holds Tryz.pinned (.plain (OpenSpec.ofChange fnExactTollOkSpec)) fnExactTollOkCard

/-- THE TIED CARD OF 'laws.FnExactTollWhole'. -/
def fnExactTollWholeCard : Claim7 := { stood := { row := fnExactTollWholeRow, standIns := [], harness := (true, "f33ba122d8b3b1303363410e55cb2b6c25983b73f7f485d14d6d27ef58626d9e"), looks := true }, kinds := [], alts := [], laidByText := true, laidKinds := [.data, .data, .data, .data, .sentinel, .sentinel, .sentinel, .sentinel, .sentinel, .sentinel, .sentinel, .pinned], laidTests := true, laidLooks := .later }
def FnExactTollWholeCardSaid : Prop := Claim7.holds Tryz.pinned (.plain (OpenSpec.ofChange fnExactTollWholeSpec)) fnExactTollWholeCard

/-- THE SECOND FORM's CARD OF 'laws.FnExactTollOk'. -/
def fnExactTollOkUptoCard : Claim7 := { stood := { row := fnExactTollOkUptoRow, standIns := [], harness := (true, "f33ba122d8b3b1303363410e55cb2b6c25983b73f7f485d14d6d27ef58626d9e"), looks := true }, kinds := [], alts := [], laidByText := true, laidKinds := [.data, .data, .data, .data, .sentinel, .sentinel, .sentinel, .sentinel, .sentinel, .sentinel, .sentinel, .pinned], laidTests := true, laidLooks := .later }
def FnExactTollOkUptoCardSaid : Prop := Claim7.holds Tryz.pinned (.plain (OpenSpec.upto fnExactTollOkSpec)) fnExactTollOkUptoCard

/-- THE SECOND FORM's CARD OF 'laws.FnExactTollWhole'. -/
def fnExactTollWholeUptoCard : Claim7 := { stood := { row := fnExactTollWholeUptoRow, standIns := [], harness := (true, "f33ba122d8b3b1303363410e55cb2b6c25983b73f7f485d14d6d27ef58626d9e"), looks := true }, kinds := [], alts := [], laidByText := true, laidKinds := [.data, .data, .data, .data, .sentinel, .sentinel, .sentinel, .sentinel, .sentinel, .sentinel, .sentinel, .pinned], laidTests := true, laidLooks := .later }
def FnExactTollWholeUptoCardSaid : Prop := Claim7.holds Tryz.pinned (.plain (OpenSpec.upto fnExactTollWholeSpec)) fnExactTollWholeUptoCard
end Rows
end Go.Proofs.YtjioiemhgbkbfaaGreatDoor
