/-
  DERIVED. GIVEN WITH THE SEED: THE CARDS: each row of YtfiakhhippfkaaaGreatDoorRows.lean that lists a variable, with what it lists TIED to the program's text (the seventh form; the later family's looks); each row that meets fmt, with fmt's text TOLD by the authors' own Lean function (tested against real Go, not proved from fmt's source: count such statements apart). THE CARD IS WHAT COUNTS. Prove the row's statement (the work); the ties are given (YtfiakhhippfkaaaGreatDoorTie.lean); close each card by the builder's one call (the guide's Derived/Test/ToyasCard.lean, 'card_holds'). Laid BY PROGRAM, IN A SANDBOX (cutbox-door.mjs). By AI agents, Wed Nov 11 2026. No macro, syntax, notation, axiom, sorry.
-/
import Derived.Test.YtfiakhhippfkaaaGreatDoorRows
import GoSem.ClaimSeven
namespace Go.Proofs.YtfiakhhippfkaaaGreatDoor
namespace Rows

/-- THE TIED CARD OF 'laws.FnExactReadPoly'. -/
def fnExactReadPolyCard : Claim7 := { stood := { row := fnExactReadPolyRow, standIns := [], harness := (true, "c069c019ed21bcef040bc2adead70c12035bdddad5bd4750872f167ce0aa4a0d"), looks := true }, kinds := [], alts := [], laidByText := true, laidKinds := [.data, .data, .data, .data, .sentinel, .sentinel, .pinned], laidTests := true, laidLooks := .later }
def FnExactReadPolyCardSaid : Prop := Claim7.holds Tryz.pinned (.plain (OpenSpec.ofChange fnExactReadPolySpec)) fnExactReadPolyCard

/-- THE SECOND FORM's CARD OF 'laws.FnExactReadPoly'. -/
def fnExactReadPolyUptoCard : Claim7 := { stood := { row := fnExactReadPolyUptoRow, standIns := [], harness := (true, "c069c019ed21bcef040bc2adead70c12035bdddad5bd4750872f167ce0aa4a0d"), looks := true }, kinds := [], alts := [], laidByText := true, laidKinds := [.data, .data, .data, .data, .sentinel, .sentinel, .pinned], laidTests := true, laidLooks := .later }
def FnExactReadPolyUptoCardSaid : Prop := Claim7.holds Tryz.pinned (.plain (OpenSpec.upto fnExactReadPolySpec)) fnExactReadPolyUptoCard
end Rows
end Go.Proofs.YtfiakhhippfkaaaGreatDoor
