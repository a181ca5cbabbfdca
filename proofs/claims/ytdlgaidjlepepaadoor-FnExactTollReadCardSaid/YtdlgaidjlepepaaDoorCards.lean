/-
  DERIVED. GIVEN WITH THE SEED: THE CARDS: each row of YtdlgaidjlepepaaDoorRows.lean that lists a variable, with what it lists TIED to the program's text (the seventh form; the later family's looks); each row that meets fmt, with fmt's text TOLD by the authors' own Lean function (tested against real Go, not proved from fmt's source: count such statements apart). THE CARD IS WHAT COUNTS. Prove the row's statement (the work); the ties are given (YtdlgaidjlepepaaDoorTie.lean); close each card by the builder's one call (the guide's Derived/Test/ToyasCard.lean, 'card_holds'). Laid BY PROGRAM, IN A SANDBOX (cutbox-door.mjs). By AI agents, Wed Nov 11 2026. No macro, syntax, notation, axiom, sorry.
-/
import Derived.Test.YtdlgaidjlepepaaDoorRows
import GoSem.ClaimSeven
namespace Go.Proofs.YtdlgaidjlepepaaDoor
namespace Rows

/-- THE TIED CARD OF 'laws.FnExactTollWrite'. -/
def fnExactTollWriteCard : Claim7 := { stood := { row := fnExactTollWriteRow, standIns := [], harness := (true, "0ee1d555f8d2e1d38fbcef4fd790380804db0e212bcc1595c37e870190477b33"), looks := true }, kinds := [], alts := [], laidByText := true, laidKinds := [.data, .data, .data, .sentinel, .sentinel], laidTests := true, laidLooks := .later }
def FnExactTollWriteCardSaid : Prop := Claim7.holds Tryd.pinned (.plain (OpenSpec.ofChange fnExactTollWriteSpec)) fnExactTollWriteCard

/-- THE TIED CARD OF 'laws.FnExactTollRead'. -/
def fnExactTollReadCard : Claim7 := { stood := { row := fnExactTollReadRow, standIns := [], harness := (true, "0ee1d555f8d2e1d38fbcef4fd790380804db0e212bcc1595c37e870190477b33"), looks := true }, kinds := [], alts := [], laidByText := true, laidKinds := [.data, .data, .data, .data, .sentinel, .sentinel, .pinned], laidTests := true, laidLooks := .later }
def FnExactTollReadCardSaid : Prop := Claim7.holds Tryd.pinned (.plain (OpenSpec.ofChange fnExactTollReadSpec)) fnExactTollReadCard

/-- THE SECOND FORM's CARD OF 'laws.FnExactTollWrite'. -/
def fnExactTollWriteUptoCard : Claim7 := { stood := { row := fnExactTollWriteUptoRow, standIns := [], harness := (true, "0ee1d555f8d2e1d38fbcef4fd790380804db0e212bcc1595c37e870190477b33"), looks := true }, kinds := [], alts := [], laidByText := true, laidKinds := [.data, .data, .data, .sentinel, .sentinel], laidTests := true, laidLooks := .later }
def FnExactTollWriteUptoCardSaid : Prop := Claim7.holds Tryd.pinned (.plain (OpenSpec.upto fnExactTollWriteSpec)) fnExactTollWriteUptoCard

/-- THE SECOND FORM's CARD OF 'laws.FnExactTollRead'. -/
def fnExactTollReadUptoCard : Claim7 := { stood := { row := fnExactTollReadUptoRow, standIns := [], harness := (true, "0ee1d555f8d2e1d38fbcef4fd790380804db0e212bcc1595c37e870190477b33"), looks := true }, kinds := [], alts := [], laidByText := true, laidKinds := [.data, .data, .data, .data, .sentinel, .sentinel, .pinned], laidTests := true, laidLooks := .later }
def FnExactTollReadUptoCardSaid : Prop := Claim7.holds Tryd.pinned (.plain (OpenSpec.upto fnExactTollReadSpec)) fnExactTollReadUptoCard
end Rows
end Go.Proofs.YtdlgaidjlepepaaDoor
