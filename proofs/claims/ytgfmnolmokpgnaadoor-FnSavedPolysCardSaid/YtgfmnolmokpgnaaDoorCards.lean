/-
  DERIVED. GIVEN WITH THE SEED: THE CARDS: each row of YtgfmnolmokpgnaaDoorRows.lean that lists a variable, with what it lists TIED to the program's text (the seventh form; the later family's looks); each row that meets fmt, with fmt's text TOLD by the authors' own Lean function (tested against real Go, not proved from fmt's source: count such statements apart). THE CARD IS WHAT COUNTS. Prove the row's statement (the work); the ties are given (YtgfmnolmokpgnaaDoorTie.lean); close each card by the builder's one call (the guide's Derived/Test/ToyasCard.lean, 'card_holds'). Laid BY PROGRAM, IN A SANDBOX (cutbox-door.mjs). By AI agents, Wed Nov 11 2026. No macro, syntax, notation, axiom, sorry.
-/
import Derived.Test.YtgfmnolmokpgnaaDoorRows
import GoSem.ClaimSeven
namespace Go.Proofs.YtgfmnolmokpgnaaDoor
namespace Rows

/-- THE TIED CARD OF 'laws.FnSavedPolys'. -/
def fnSavedPolysCard : Claim7 := { stood := { row := fnSavedPolysRow, standIns := [], harness := (true, "6e945484515cd8180b37724bf1e0a129d8948c951a7f4ae308bed370f9ceb4ef"), looks := false }, kinds := [], alts := [], laidByText := true, laidKinds := [.data, .pinned], laidTests := true, laidLooks := .later }
def FnSavedPolysCardSaid : Prop := Claim7.holds Tryd.pinned (.plain (OpenSpec.ofChange fnSavedPolysSpec)) fnSavedPolysCard

/-- THE SECOND FORM's CARD OF 'laws.FnSavedPolys'. -/
def fnSavedPolysUptoCard : Claim7 := { stood := { row := fnSavedPolysUptoRow, standIns := [], harness := (true, "6e945484515cd8180b37724bf1e0a129d8948c951a7f4ae308bed370f9ceb4ef"), looks := false }, kinds := [], alts := [], laidByText := true, laidKinds := [.data, .pinned], laidTests := true, laidLooks := .later }
def FnSavedPolysUptoCardSaid : Prop := Claim7.holds Tryd.pinned (.plain (OpenSpec.upto fnSavedPolysSpec)) fnSavedPolysUptoCard
end Rows
end Go.Proofs.YtgfmnolmokpgnaaDoor
