/-
  DERIVED. GIVEN WITH THE SEED: THE CARDS: each row of YtdpbncadmhpphaaGreatDoorRows.lean that lists a variable, with what it lists TIED to the program's text (the seventh form; the later family's looks); each row that meets fmt, with fmt's text TOLD by the authors' own Lean function (tested against real Go, not proved from fmt's source: count such statements apart). THE CARD IS WHAT COUNTS. Prove the row's statement (the work); the ties are given (YtdpbncadmhpphaaGreatDoorTie.lean); close each card by the builder's one call (the guide's Derived/Test/ToyasCard.lean, 'card_holds'). Laid BY PROGRAM, IN A SANDBOX (cutbox-door.mjs). By AI agents, Wed Nov 11 2026. No macro, syntax, notation, axiom, sorry.
-/
import Derived.Test.YtdpbncadmhpphaaGreatDoorRows
import GoSem.ClaimSeven
namespace Go.Proofs.YtdpbncadmhpphaaGreatDoor
namespace Rows

/-- THE TIED CARD OF 'almanaclaw28.BetweenKnown'. -/
def betweenKnownCard : Claim7 := { stood := { row := betweenKnownRow, standIns := [], harness := (true, "5b5e1f5872a8649b3b96029e663f1e295754572e8270a83c08dc27a726383e6e"), looks := false }, kinds := [], alts := [], laidByText := true, laidKinds := [.data, .data, .data, .data, .pinned, .pinned], laidTests := true, laidLooks := .later }
def BetweenKnownCardSaid : Prop := Claim7.holds Tryz.pinned (.plain (OpenSpec.ofChange betweenKnownSpec)) betweenKnownCard

/-- THE SECOND FORM's CARD OF 'almanaclaw28.BetweenKnown'. -/
def betweenKnownUptoCard : Claim7 := { stood := { row := betweenKnownUptoRow, standIns := [], harness := (true, "5b5e1f5872a8649b3b96029e663f1e295754572e8270a83c08dc27a726383e6e"), looks := false }, kinds := [], alts := [], laidByText := true, laidKinds := [.data, .data, .data, .data, .pinned, .pinned], laidTests := true, laidLooks := .later }
def BetweenKnownUptoCardSaid : Prop := Claim7.holds Tryz.pinned (.plain (OpenSpec.upto betweenKnownSpec)) betweenKnownUptoCard
end Rows
end Go.Proofs.YtdpbncadmhpphaaGreatDoor
