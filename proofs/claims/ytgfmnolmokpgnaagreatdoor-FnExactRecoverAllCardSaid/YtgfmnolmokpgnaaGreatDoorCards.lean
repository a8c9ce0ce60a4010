/-
  DERIVED. GIVEN WITH THE SEED: THE CARDS: each row of YtgfmnolmokpgnaaGreatDoorRows.lean that lists a variable, with what it lists TIED to the program's text (the seventh form; the later family's looks); each row that meets fmt, with fmt's text TOLD by the authors' own Lean function (tested against real Go, not proved from fmt's source: count such statements apart). THE CARD IS WHAT COUNTS. Prove the row's statement (the work); the ties are given (YtgfmnolmokpgnaaGreatDoorTie.lean); close each card by the builder's one call (the guide's Derived/Test/ToyasCard.lean, 'card_holds'). Laid BY PROGRAM, IN A SANDBOX (cutbox-door.mjs). By AI agents, Wed Nov 11 2026. No macro, syntax, notation, axiom, sorry.
-/
import Derived.Test.YtgfmnolmokpgnaaGreatDoorRows
import GoSem.ClaimSeven
namespace Go.Proofs.YtgfmnolmokpgnaaGreatDoor
namespace Rows

/-- THE TIED CARD OF 'laws.FnExactLoadSaved'. -/
def fnExactLoadSavedCard : Claim7 := { stood := { row := fnExactLoadSavedRow, standIns := [], harness := (true, "a52095d00d70295965ed7a0c30412462d11632ff78b52c45f1d18c7096a8f535"), looks := false }, kinds := [], alts := [], laidByText := true, laidKinds := [.data, .pinned], laidTests := true, laidLooks := .later }
def FnExactLoadSavedCardSaid : Prop := Claim7.holds Tryz.pinned (.plain (OpenSpec.ofChange fnExactLoadSavedSpec)) fnExactLoadSavedCard

/-- THE TIED CARD OF 'laws.FnExactRecoverAll'. -/
def fnExactRecoverAllCard : Claim7 := { stood := { row := fnExactRecoverAllRow, standIns := [], harness := (true, "a52095d00d70295965ed7a0c30412462d11632ff78b52c45f1d18c7096a8f535"), looks := false }, kinds := [], alts := [], laidByText := true, laidKinds := [.data, .pinned], laidTests := true, laidLooks := .later }
def FnExactRecoverAllCardSaid : Prop := Claim7.holds Tryz.pinned (.plain (OpenSpec.ofChange fnExactRecoverAllSpec)) fnExactRecoverAllCard

/-- THE SECOND FORM's CARD OF 'laws.FnExactLoadSaved'. -/
def fnExactLoadSavedUptoCard : Claim7 := { stood := { row := fnExactLoadSavedUptoRow, standIns := [], harness := (true, "a52095d00d70295965ed7a0c30412462d11632ff78b52c45f1d18c7096a8f535"), looks := false }, kinds := [], alts := [], laidByText := true, laidKinds := [.data, .pinned], laidTests := true, laidLooks := .later }
def FnExactLoadSavedUptoCardSaid : Prop := Claim7.holds Tryz.pinned (.plain (OpenSpec.upto fnExactLoadSavedSpec)) fnExactLoadSavedUptoCard

/-- THE SECOND FORM's CARD OF 'laws.FnExactRecoverAll'. -/
def fnExactRecoverAllUptoCard : Claim7 := { stood := { row := fnExactRecoverAllUptoRow, standIns := [], harness := (true, "a52095d00d70295965ed7a0c30412462d11632ff78b52c45f1d18c7096a8f535"), looks := false }, kinds := [], alts := [], laidByText := true, laidKinds := [.data, .pinned], laidTests := true, laidLooks := .later }
def FnExactRecoverAllUptoCardSaid : Prop := Claim7.holds Tryz.pinned (.plain (OpenSpec.upto fnExactRecoverAllSpec)) fnExactRecoverAllUptoCard
end Rows
end Go.Proofs.YtgfmnolmokpgnaaGreatDoor
