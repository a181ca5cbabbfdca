/-
  DERIVED. GIVEN WITH THE SEED: THE CARDS: each row of YtmfhlkkligcgdaaGreatDoorRows.lean that lists a variable, with what it lists TIED to the program's text (the seventh form; the later family's looks); each row that meets fmt, with fmt's text TOLD by the authors' own Lean function (tested against real Go, not proved from fmt's source: count such statements apart). THE CARD IS WHAT COUNTS. Prove the row's statement (the work); the ties are given (YtmfhlkkligcgdaaGreatDoorTie.lean); close each card by the builder's one call (the guide's Derived/Test/ToyasCard.lean, 'card_holds'). Laid BY PROGRAM, IN A SANDBOX (cutbox-door.mjs). By AI agents, Wed Nov 11 2026. No macro, syntax, notation, axiom, sorry.
-/
import Derived.Test.YtmfhlkkligcgdaaGreatDoorRows
import GoSem.ClaimSeven
namespace Go.Proofs.YtmfhlkkligcgdaaGreatDoor
namespace Rows

/-- THE TIED CARD OF 'laws.FnExactGateCalls'. -/
def fnExactGateCallsCard : Claim7 := { stood := { row := fnExactGateCallsRow, standIns := [], harness := (true, "7c4c7453579e7d9c2832b077252bb332a05eef96b089019d7688018b94b00244"), looks := true }, kinds := [], alts := [], laidByText := true, laidKinds := [.data, .data, .data, .data, .sentinel, .sentinel, .pinned], laidTests := true, laidLooks := .later }
def FnExactGateCallsCardSaid : Prop := Claim7.holds Tryz.pinned (.plain (OpenSpec.ofChange fnExactGateCallsSpec)) fnExactGateCallsCard

/-- THE TIED CARD OF 'laws.FnExactGateMap'. -/
def fnExactGateMapCard : Claim7 := { stood := { row := fnExactGateMapRow, standIns := [], harness := (true, "7c4c7453579e7d9c2832b077252bb332a05eef96b089019d7688018b94b00244"), looks := true }, kinds := [], alts := [], laidByText := true, laidKinds := [.data, .data, .data, .data, .sentinel, .sentinel, .pinned], laidTests := true, laidLooks := .later }
def FnExactGateMapCardSaid : Prop := Claim7.holds Tryz.pinned (.plain (OpenSpec.ofChange fnExactGateMapSpec)) fnExactGateMapCard

/-- THE TIED CARD OF 'laws.FnExactGateFall'. -/
def fnExactGateFallCard : Claim7 := { stood := { row := fnExactGateFallRow, standIns := [], harness := (true, "7c4c7453579e7d9c2832b077252bb332a05eef96b089019d7688018b94b00244"), looks := true }, kinds := [], alts := [], laidByText := true, laidKinds := [.data, .data, .data, .data, .sentinel, .sentinel, .pinned], laidTests := true, laidLooks := .later }
def FnExactGateFallCardSaid : Prop := Claim7.holds Tryz.pinned (.plain (OpenSpec.ofChange fnExactGateFallSpec)) fnExactGateFallCard

/-- THE TIED CARD OF 'laws.FnExactGateRise'. -/
def fnExactGateRiseCard : Claim7 := { stood := { row := fnExactGateRiseRow, standIns := [], harness := (true, "7c4c7453579e7d9c2832b077252bb332a05eef96b089019d7688018b94b00244"), looks := true }, kinds := [], alts := [], laidByText := true, laidKinds := [.data, .data, .data, .data, .sentinel, .sentinel, .pinned], laidTests := true, laidLooks := .later }
def FnExactGateRiseCardSaid : Prop := Claim7.holds Tryz.pinned (.plain (OpenSpec.ofChange fnExactGateRiseSpec)) fnExactGateRiseCard

/-- THE SECOND FORM's CARD OF 'laws.FnExactGateCalls'. -/
def fnExactGateCallsUptoCard : Claim7 := { stood := { row := fnExactGateCallsUptoRow, standIns := [], harness := (true, "7c4c7453579e7d9c2832b077252bb332a05eef96b089019d7688018b94b00244"), looks := true }, kinds := [], alts := [], laidByText := true, laidKinds := [.data, .data, .data, .data, .sentinel, .sentinel, .pinned], laidTests := true, laidLooks := .later }
def FnExactGateCallsUptoCardSaid : Prop := Claim7.holds Tryz.pinned (.plain (OpenSpec.upto fnExactGateCallsSpec)) fnExactGateCallsUptoCard

/-- THE SECOND FORM's CARD OF 'laws.FnExactGateMap'. -/
def fnExactGateMapUptoCard : Claim7 := { stood := { row := fnExactGateMapUptoRow, standIns := [], harness := (true, "7c4c7453579e7d9c2832b077252bb332a05eef96b089019d7688018b94b00244"), looks := true }, kinds := [], alts := [], laidByText := true, laidKinds := [.data, .data, .data, .data, .sentinel, .sentinel, .pinned], laidTests := true, laidLooks := .later }
def FnExactGateMapUptoCardSaid : Prop := Claim7.holds Tryz.pinned (.plain (OpenSpec.upto fnExactGateMapSpec)) fnExactGateMapUptoCard

/-- THE SECOND FORM's CARD OF 'laws.FnExactGateFall'. -/
def fnExactGateFallUptoCard : Claim7 := { stood := { row := fnExactGateFallUptoRow, standIns := [], harness := (true, "7c4c7453579e7d9c2832b077252bb332a05eef96b089019d7688018b94b00244"), looks := true }, kinds := [], alts := [], laidByText := true, laidKinds := [.data, .data, .data, .data, .sentinel, .sentinel, .pinned], laidTests := true, laidLooks := .later }
def FnExactGateFallUptoCardSaid : Prop := Claim7.holds Tryz.pinned (.plain (OpenSpec.upto fnExactGateFallSpec)) fnExactGateFallUptoCard

/-- THE SECOND FORM's CARD OF 'laws.FnExactGateRise'. -/
def fnExactGateRiseUptoCard : Claim7 := { stood := { row := fnExactGateRiseUptoRow, standIns := [], harness := (true, "7c4c7453579e7d9c2832b077252bb332a05eef96b089019d7688018b94b00244"), looks := true }, kinds := [], alts := [], laidByText := true, laidKinds := [.data, .data, .data, .data, .sentinel, .sentinel, .pinned], laidTests := true, laidLooks := .later }
def FnExactGateRiseUptoCardSaid : Prop := Claim7.holds Tryz.pinned (.plain (OpenSpec.upto fnExactGateRiseSpec)) fnExactGateRiseUptoCard
end Rows
end Go.Proofs.YtmfhlkkligcgdaaGreatDoor
