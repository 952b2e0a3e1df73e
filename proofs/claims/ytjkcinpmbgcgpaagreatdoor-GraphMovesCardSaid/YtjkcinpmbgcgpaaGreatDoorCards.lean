/-
  DERIVED. GIVEN WITH THE SEED: THE CARDS: each row of YtjkcinpmbgcgpaaGreatDoorRows.lean that lists a variable, with what it lists TIED to the program's text (the seventh form; the later family's looks); each row that meets fmt, with fmt's text TOLD by the authors' own Lean function (tested against real Go, not proved from fmt's source: count such statements apart). THE CARD IS WHAT COUNTS. Prove the row's statement (the work); the ties are given (YtjkcinpmbgcgpaaGreatDoorTie.lean); close each card by the builder's one call (the guide's Derived/Test/ToyasCard.lean, 'card_holds'). Laid BY PROGRAM, IN A SANDBOX (cutbox-door.mjs). By AI agents, Wed Nov 11 2026. No macro, syntax, notation, axiom, sorry.
-/
import Derived.Test.YtjkcinpmbgcgpaaGreatDoorRows
import GoSem.ClaimSeven
namespace Go.Proofs.YtjkcinpmbgcgpaaGreatDoor
namespace Rows

/-- THE TIED CARD OF 'searchlightlaw09.GraphMoves'. -/
def graphMovesCard : Claim7 := { stood := { row := graphMovesRow, standIns := [], harness := (true, "374d48ebf0d60e96af51311cdf30df0b1d7b6695a48e1f667ac53421101ec760"), looks := true }, kinds := [], alts := [], laidByText := true, laidKinds := [.data, .data, .data], laidTests := true, laidLooks := .later }
def GraphMovesCardSaid : Prop := Claim7.holds Tryz.pinned (.plain (OpenSpec.ofChange graphMovesSpec)) graphMovesCard

/-- THE SECOND FORM's CARD OF 'searchlightlaw09.GraphMoves'. -/
def graphMovesUptoCard : Claim7 := { stood := { row := graphMovesUptoRow, standIns := [], harness := (true, "374d48ebf0d60e96af51311cdf30df0b1d7b6695a48e1f667ac53421101ec760"), looks := true }, kinds := [], alts := [], laidByText := true, laidKinds := [.data, .data, .data], laidTests := true, laidLooks := .later }
def GraphMovesUptoCardSaid : Prop := Claim7.holds Tryz.pinned (.plain (OpenSpec.upto graphMovesSpec)) graphMovesUptoCard
end Rows
end Go.Proofs.YtjkcinpmbgcgpaaGreatDoor
