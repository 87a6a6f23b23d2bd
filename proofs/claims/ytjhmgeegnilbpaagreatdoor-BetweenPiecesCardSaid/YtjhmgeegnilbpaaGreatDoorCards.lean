/-
  DERIVED. GIVEN WITH THE SEED: THE CARDS: each row of YtjhmgeegnilbpaaGreatDoorRows.lean that lists a variable, with what it lists TIED to the program's text (the seventh form; the later family's looks); each row that meets fmt, with fmt's text TOLD by the authors' own Lean function (tested against real Go, not proved from fmt's source: count such statements apart). THE CARD IS WHAT COUNTS. Prove the row's statement (the work); the ties are given (YtjhmgeegnilbpaaGreatDoorTie.lean); close each card by the builder's one call (the guide's Derived/Test/ToyasCard.lean, 'card_holds'). Laid BY PROGRAM, IN A SANDBOX (cutbox-door.mjs). By AI agents, Wed Nov 11 2026. No macro, syntax, notation, axiom, sorry.
-/
import Derived.Test.YtjhmgeegnilbpaaGreatDoorRows
import GoSem.ClaimSeven
namespace Go.Proofs.YtjhmgeegnilbpaaGreatDoor
namespace Rows

/-- THE TIED CARD OF 'almanaclaw28.BetweenPieces'. -/
def betweenPiecesCard : Claim7 := { stood := { row := betweenPiecesRow, standIns := [], harness := (true, "5e5bd45fcabbac513cef8d6812590a7edec1744c33d3ca8748c9180a1f8e9b48"), looks := false }, kinds := [], alts := [], laidByText := true, laidKinds := [.data, .data, .data, .data, .pinned, .pinned], laidTests := true, laidLooks := .later }
def BetweenPiecesCardSaid : Prop := Claim7.holds Tryz.pinned (.plain (OpenSpec.ofChange betweenPiecesSpec)) betweenPiecesCard

/-- THE SECOND FORM's CARD OF 'almanaclaw28.BetweenPieces'. -/
def betweenPiecesUptoCard : Claim7 := { stood := { row := betweenPiecesUptoRow, standIns := [], harness := (true, "5e5bd45fcabbac513cef8d6812590a7edec1744c33d3ca8748c9180a1f8e9b48"), looks := false }, kinds := [], alts := [], laidByText := true, laidKinds := [.data, .data, .data, .data, .pinned, .pinned], laidTests := true, laidLooks := .later }
def BetweenPiecesUptoCardSaid : Prop := Claim7.holds Tryz.pinned (.plain (OpenSpec.upto betweenPiecesSpec)) betweenPiecesUptoCard
end Rows
end Go.Proofs.YtjhmgeegnilbpaaGreatDoor
